/- WholeTurned: parts of its proof (Gc So Ra S5). -/
import Derived.Test.YtlmabdegojeheaaGreatDoorOvQt
import Derived.Test.YtlmabdegojeheaaGreatDoorUcRf3
namespace Go.Proofs.YtlmabdegojeheaaGreatDoor
open R Go.RowKit
section
theorem nC (a:Wd) (h:a.n≠0):tz a.n<512:=by
 obtain ⟨N,hN,hw⟩:=qV
 have h1:=NW (qA h)
 have h2:=a.lt
 rw [hw] at h2
 have:=(Nat.pow_lt_pow_iff_right (by omega:1<2)).1 (Nat.lt_of_le_of_lt h1 h2)
 omega
theorem adR {p:Prop} [Decidable p] (h:(!decide p)=true):¬p:=fun hp=>by rw [decide_eq_true hp] at h;cases h
theorem adS {p:Prop} [Decidable p] (h:(!decide p)=false):p:=Decidable.byContradiction fun hp=>by rw [decide_eq_false hp] at h;cases h
set_option maxRecDepth 20000 in
set_option maxHeartbeats 1000000 in
theorem KH (a:Wd) (h0:a.n≠0) (w:World):Calls Tryz.prog 233 #[.agg (cW a).toArray] w fun e w'=>e=.returned (.int .i64 (tz a.n:Nat))∧Below w.heap.size w w':=by
 have hM:=R.Own.start [] w
 have ht:=nC a h0
 refine aa (fn:=Tryz.f233) Tryz.func233 rfl Tryz.ntmps233 (Nat.le_of_ble_eq_true rfl) ?_
 (refine ak ?_;(repeat' first|refine And.intro ?_ ?_|intro _);all_goals refine ah.mk ?_)
 rename_i g w1 hM
 refine au (fun n:Nat=>[(1,.pointer (some ⟨g,0,none⟩)),(2,.int .i64 0),(3,.int .i64 (n:Nat))])
  (fun n w2=>n≤tz a.n∧a.n % 2 ^ n=0∧R.Own [] w w2 [.blk g 109 (cW a)]) (fun n=>tz a.n-n)
  ⟨0,⟨rfl,rfl,rfl,trivial⟩,Nat.zero_le _,by simp [Nat.mod_one],hM⟩ ?_
 rintro n f w2 ⟨hn,hz,hM⟩
 by_cases hb:a.n / 2 ^ n % 2=1
 ·have hB:(0≤(n:Int)∧(n:Int)<512∧a.n / 2 ^ (n:Int).toNat % 2=1):=⟨by omega,by omega,by rw [Int.toNat_natCast];exact hb⟩
  have e:=VM (⟨hz,hb⟩:xx a.n n)
  have hK:=ah.mk hB
  clear hB hz hb
  (refine ak ?_;(repeat' first|refine And.intro ?_ ?_|intro _);all_goals refine ah.mk ?_;(all_goals (try (exact ⟨rfl,R.Own.below ww⟩))))
  all_goals first|(rename_i h;exact absurd hK.out (adR h))|(rw [e];exact ⟨rfl,R.Own.below ww⟩)
 ·have hB:¬ (0≤(n:Int)∧(n:Int)<512∧a.n / 2 ^ (n:Int).toNat % 2=1):=fun h=>hb (by have:=h.2.2;rwa [Int.toNat_natCast] at this)
  have hz2:=IY hz hb
  have hlt:=NU (qA h0) hz2
  have hK:=ah.mk hB
  have hZ:=ah.mk hz2
  clear hB hz hb hz2
  (refine ak ?_;(repeat' first|refine And.intro ?_ ?_|intro _);all_goals refine ah.mk ?_;(all_goals (try (exact ⟨rfl,R.Own.below ww⟩))))
  ·rename_i hM _
   exact ⟨n+1,⟨rfl,rfl,aF rfl xj,trivial⟩,⟨hlt,hZ.out,hM⟩,by omega⟩
  all_goals (rename_i h;exact absurd (adS h) hK.out)
instance aaD (a:Wd):bj Tryz.prog 233 #[.agg (cW a).toArray] Unit (fun _ _=>a.n≠0) (fun _=>.int .i64 (tz a.n:Nat)):=⟨fun _ w h=>KH a h w⟩
def rR (a b:Wd):Wd:=W (Nat.gcd a.n b.n)
theorem Ac (a b:Wd):Nat.gcd a.n b.n<aq:=by
 rcases Nat.eq_zero_or_pos a.n with h|h
 ·rw [h,Nat.gcd_zero_left];exact b.lt
 ·exact Nat.lt_of_le_of_lt (Nat.gcd_le_left _ h) a.lt
theorem lP (a:Wd) (n:Nat):(Ju a (-(n:Int))).n=a.n / 2 ^ n:=PX _ _ a.lt
set_option maxRecDepth 20000 in
attribute [local irreducible] aq in
set_option maxHeartbeats 4000000 in
theorem Tf (a b:Wd) (w:World):Calls Tryz.prog 179 #[.agg (cW a).toArray,.agg (cW b).toArray] w fun e w'=>e=.returned (.agg (cW (rR a b)).toArray)∧Below w.heap.size w w':=by
 have hM:=R.Own.start [] w
 by_cases ha:a.n=0
 ·have e1:rR a b=b:=Wd.lq (by
   unfold rR
   rw [oP (Ac a b),ha,Nat.gcd_zero_left])
  refine aa (fn:=Tryz.f179) Tryz.func179 rfl Tryz.ntmps179 (Nat.le_of_ble_eq_true rfl) ?_
  (refine ad ?_;(repeat' first|refine And.intro ?_ ?_|intro _);all_goals refine ah.mk ?_;(all_goals (try (exact ⟨rfl,R.Own.below ww⟩))))
  rw [e1]
  exact ⟨rfl,R.Own.below ww⟩
 by_cases hb:b.n=0
 ·have e1:rR a b=a:=Wd.lq (by
   unfold rR
   rw [oP (Ac a b),hb,Nat.gcd_zero_right])
  refine aa (fn:=Tryz.f179) Tryz.func179 rfl Tryz.ntmps179 (Nat.le_of_ble_eq_true rfl) ?_
  (refine ad ?_;(repeat' first|refine And.intro ?_ ?_|intro _);all_goals refine ah.mk ?_;(all_goals (try (exact ⟨rfl,R.Own.below ww⟩))))
  rw [e1]
  exact ⟨rfl,R.Own.below ww⟩
 have hta:=nC a ha
 have htb:=nC b hb
 refine aa (fn:=Tryz.f179) Tryz.func179 rfl Tryz.ntmps179 (Nat.le_of_ble_eq_true rfl) ?_
 (refine ad ?_;(repeat' first|refine And.intro ?_ ?_|intro _);all_goals refine ah.mk ?_;(all_goals (try (exact ⟨rfl,R.Own.below ww⟩))))
 rename_i g1 _ _ g2 _ _ g3 _ _ _ _ _ _
 refine bB [(0,false),(2,false),(1,true),(3,true),(4,false),(5,false)] R.mixed wx aj ?_
 (refine ad ?_;(repeat' first|refine And.intro ?_ ?_|intro _);all_goals refine ah.mk ?_;(all_goals (try (exact ⟨rfl,R.Own.below ww⟩))))
 (refine kj 2 [(0,false),(1,false),(5,false),(6,false),(2,true),(3,false),(4,true),(7,true),(8,false),(9,true),(10,true),(11,true)] R.mixed wx aj ?_;simp only [List.take_succ_cons,List.take_zero])
 (refine ad ?_;(repeat' first|refine And.intro ?_ ?_|intro _);all_goals refine ah.mk ?_;(all_goals (try (exact ⟨rfl,R.Own.below ww⟩))))
 rename_i w1 hM
 refine au (fun s:Wd×Wd=>[(2,.pointer (some ⟨g1,0,none⟩)),(3,.pointer (some ⟨g2,0,none⟩)),(4,.pointer (some ⟨g3,0,none⟩)),(5,.int .i64 (min (tz a.n:Nat) (tz b.n:Nat)))])
  (fun s w2=>Nat.gcd s.1.n s.2.n=Nat.gcd (a.n / 2 ^ tz a.n) (b.n / 2 ^ tz b.n)∧s.1.n % 2=1∧s.2.n % 2=1∧R.Own [] w w2 [.blk g3 109 (cW (W 0)),.blk g2 109 (cW s.2),.blk g1 109 (cW s.1)]) (fun s=>s.1.n+s.2.n)
  ⟨(Ju a (-(tz a.n:Nat)),Ju b (-(tz b.n:Nat))),⟨rfl,rfl,rfl,rfl,trivial⟩,by dsimp only;rw [lP,lP],by dsimp only;rw [lP];exact (qA ha).2,by dsimp only;rw [lP];exact (qA hb).2,hM⟩ ?_
 clear hM
 rintro ⟨x,y⟩ f w2 ⟨hG,ox,oy,hM⟩
 dsimp only at hG ox oy hM ⊢
 by_cases hxy:x=y
 ·subst hxy
  have e1:rR a b=Ju x (min ((tz a.n:Nat):Int) (tz b.n:Nat)):=Wd.lq (by
   unfold rR
   have h1:=NV ha hb
   have h2:=Ac a b
   rw [← hG,Nat.gcd_self] at h1
   show (W _).n=PN x.n _
   rw [oP h2,show min ((tz a.n:Nat):Int) (tz b.n:Nat)=((min (tz a.n) (tz b.n):Nat):Int) by omega,PW,← h1,Nat.mod_eq_of_lt h2])
  clear hG
  (refine ad ?_;(repeat' first|refine And.intro ?_ ?_|intro _);all_goals refine ah.mk ?_;(all_goals (try (exact ⟨rfl,R.Own.below ww⟩))))
  all_goals first|exact absurd rfl ww|(rw [e1];exact ⟨rfl,R.Own.below ww⟩)
 ·have hne:x.n≠y.n:=fun h=>hxy (Wd.lq h)
  by_cases hlt:x.n<y.n
  ·have hc:mL x.n y.n<0:=(qE _ _).2 hlt
   have hd:(kG y x).n=y.n-x.n:=oh y.lt xj
   have hd0:(kG y x).n≠0:=by omega
   have hr:=ya ox hlt
   have hs:=lP (kG y x) (tz (kG y x).n)
   have ho:=(qA hd0).2
   have hle:=Nat.div_le_self (kG y x).n (2 ^ tz (kG y x).n)
   have htz:=nC (kG y x) hd0
   rw [← hd,← hs] at hr
   rw [← hs] at ho hle
   clear hs
   have hK:=ah.mk (And.intro hG (And.intro hr ho))
   clear hG hr ho
   (refine ad ?_;(repeat' first|refine And.intro ?_ ?_|intro _);all_goals refine ah.mk ?_;(all_goals (try (exact ⟨rfl,R.Own.below ww⟩))))
   refine bB [(0,false),(1,false),(2,true),(3,false),(4,true),(5,true)] R.mixed wx aj ?_
   (refine ad ?_;(repeat' first|refine And.intro ?_ ?_|intro _);all_goals refine ah.mk ?_;(all_goals (try (exact ⟨rfl,R.Own.below ww⟩))))
   rename_i hM
   exact ⟨(Ju (kG y x) (-(tz (kG y x).n:Nat)),x),⟨rfl,rfl,rfl,rfl,trivial⟩,⟨by dsimp only;rw [hK.out.2.1,Nat.gcd_comm];exact hK.out.1,hK.out.2.2,ox,hM⟩,by dsimp only;omega⟩
  ·have hc:¬ mL x.n y.n<0:=fun h=>hlt ((qE _ _).1 h)
   have hd:(kG x y).n=x.n-y.n:=oh x.lt xj
   have hd0:(kG x y).n≠0:=by omega
   have hr:=ya oy (by omega:y.n<x.n)
   have hs:=lP (kG x y) (tz (kG x y).n)
   have ho:=(qA hd0).2
   have hle:=Nat.div_le_self (kG x y).n (2 ^ tz (kG x y).n)
   have htz:=nC (kG x y) hd0
   rw [← hd,← hs] at hr
   rw [← hs] at ho hle
   clear hs
   have hK:=ah.mk (And.intro hG (And.intro hr ho))
   clear hG hr ho
   (refine ad ?_;(repeat' first|refine And.intro ?_ ?_|intro _);all_goals refine ah.mk ?_;(all_goals (try (exact ⟨rfl,R.Own.below ww⟩))))
   refine bB [(0,false),(1,false),(2,true),(3,false),(4,true),(5,true)] R.mixed wx aj ?_
   (refine ad ?_;(repeat' first|refine And.intro ?_ ?_|intro _);all_goals refine ah.mk ?_;(all_goals (try (exact ⟨rfl,R.Own.below ww⟩))))
   rename_i hM
   exact ⟨(Ju (kG x y) (-(tz (kG x y).n:Nat)),y),⟨rfl,rfl,rfl,rfl,trivial⟩,⟨by dsimp only;rw [hK.out.2.1];exact hK.out.1,hK.out.2.2,oy,hM⟩,by dsimp only;omega⟩
instance Tg (a b:Wd):bj Tryz.prog 179 #[.agg (cW a).toArray,.agg (cW b).toArray] Unit (fun _ _=>True) (fun _=>.agg (cW (rR a b)).toArray):=⟨fun _ w _=>Tf a b w⟩
end
section
end
def DU (x y:Int):Int:=if (x<0↔y<0) then ((x.natAbs / y.natAbs:Nat):Int) else if x.natAbs % y.natAbs=0 then -((x.natAbs / y.natAbs:Nat):Int) else -(((x.natAbs / y.natAbs:Nat):Int)+1)
def Cd (a b:Sg):Sg:=if b.br.n=0 then a8 0 else a8 (DU a.z b.z)
theorem Yz (a b:Wd) (h0:b.n≠0) (h:(rW a b).n≠0):(qW a b).n+(W (Int.toNat 1)).n<aq:=by
 have e1:(qW a b).n=a.n / b.n:=qF a _ (Nat.div_le_self _ _)
 have e3:(rW a b).n=a.n % b.n:=by unfold rW tc;rw [if_neg h0];exact qF a _ (Nat.mod_le _ _)
 have h1:=Nat.div_add_mod a.n b.n
 have h2:1*(a.n / b.n)≤b.n*(a.n / b.n):=Nat.mul_le_mul_right _ xj
 have h3:=a.lt
 rw [e1,show (W (Int.toNat 1)).n=1 from oP (fV vj)]
 omega
theorem qv (a b:Wd):(qW a b).n=a.n / b.n:=qF a _ (Nat.div_le_self _ _)
theorem rv (a b:Wd) (h0:b.n≠0):(rW a b).n=a.n % b.n:=by unfold rW tc;rw [if_neg h0];exact qF a _ (Nat.mod_le _ _)
theorem oC {a b:Sg}:(!((a8 a.z).neg == (a8 b.z).neg))=!decide (a.z<0↔b.z<0):=by
 rw [kQ,kQ]
 by_cases h1:a.z<0 <;> by_cases h2:b.z<0 <;> simp [h1,h2]
theorem VW {a b:Sg} {neg:Bool} {m:Wd} (h0:b.br.n≠0) (hn:neg=!decide (a.z<0↔b.z<0)) (h:(if (a.z<0↔b.z<0) then (m.n:Int) else -(m.n:Int))=DU a.z b.z):a8 (⟨neg,m⟩:Sg).z=Cd a b:=by
 unfold Cd
 rw [if_neg h0,← h]
 congr 1
 by_cases h1:(a.z<0↔b.z<0)
 ·rw [decide_eq_true h1] at hn
  rw [if_pos h1,OM (a:=⟨neg,m⟩) hn]
 ·rw [decide_eq_false h1] at hn
  rw [if_neg h1,OL (a:=⟨neg,m⟩) hn]
theorem DV {a b:Sg} (h0:b.br.n≠0) (h:(!((a8 a.z).neg == (a8 b.z).neg))=true→(rW (a8 a.z).br (a8 b.z).br).n=0):a8 (⟨!((a8 a.z).neg == (a8 b.z).neg),qW (a8 a.z).br (a8 b.z).br⟩:Sg).z=Cd a b:=by
 refine VW h0 oC ?_
 rw [oC,jD,jD,rv _ _ h0] at h
 rw [jD,jD,qv]
 unfold DU
 rw [a.abs,b.abs]
 by_cases h1:(a.z<0↔b.z<0)
 ·rw [if_pos h1,if_pos h1]
 ·rw [if_neg h1,if_neg h1,if_pos (h (by rw [decide_eq_false h1];rfl))]
theorem TZ {a b:Sg} (h0:b.br.n≠0) (h:(!((a8 a.z).neg == (a8 b.z).neg))=true) (hr:(rW (a8 a.z).br (a8 b.z).br).n≠0) (hf:(qW (a8 a.z).br (a8 b.z).br).n+(W (Int.toNat 1)).n<aq):a8 (⟨!((a8 a.z).neg == (a8 b.z).neg),W ((qW (a8 a.z).br (a8 b.z).br).n+(W (Int.toNat 1)).n)⟩:Sg).z=Cd a b:=by
 refine VW h0 oC ?_
 have h1:¬ (a.z<0↔b.z<0):=by rw [oC] at h;simpa using h
 rw [oP hf,show (W (Int.toNat 1)).n=1 from oP (fV vj)]
 rw [jD,jD,rv _ _ h0] at hr
 rw [jD,jD,qv]
 unfold DU
 rw [a.abs,b.abs,if_neg h1,if_neg h1,if_neg hr]
 omega
attribute [local irreducible] aq in
set_option maxHeartbeats 1000000 in
theorem aa7 (a b:Sg) (w:World):Calls Tryz.prog 478 #[.agg (cS a).toArray,.agg (cS b).toArray] w fun e w'=>e=.returned (.tuple #[.agg (cS (Cd a b)).toArray,.int .i64 (eW b.br)])∧Below w.heap.size w w':=by
 have hM:=R.Own.start [] w
 have hb:=jD b
 by_cases h0:b.br.n=0
 ·have e3:eW b.br=1:=by unfold eW;rw [if_pos h0]
  have e4:eW (a8 b.z).br=1:=by rw [hb];exact e3
  refine aa (fn:=Tryz.f478) Tryz.func478 rfl Tryz.ntmps478 (Nat.le_of_ble_eq_true rfl) ?_
  (refine ad ?_;(repeat' first|refine And.intro ?_ ?_|intro _);all_goals refine ah.mk ?_)
  (refine kj 2 [(0,false),(2,false),(1,true),(3,true),(4,true),(5,true)] R.mixed wx aj ?_;simp only [List.take_succ_cons,List.take_zero])
  (refine ad ?_;(repeat' first|refine And.intro ?_ ?_|intro _);all_goals refine ah.mk ?_;(all_goals (try (exact ⟨rfl,R.Own.below ww⟩))))
  rw [e3,e4,show Cd a b=⟨false,W 0⟩ by unfold Cd;rw [if_pos h0];rfl]
  exact ⟨rfl,R.Own.below ww⟩
 ·have e3:eW b.br=0:=by unfold eW;rw [if_neg h0]
  have e4:eW (a8 b.z).br=0:=by rw [hb];exact e3
  have e5:=Yz (a8 a.z).br (a8 b.z).br (by rw [hb];exact h0)
  refine aa (fn:=Tryz.f478) Tryz.func478 rfl Tryz.ntmps478 (Nat.le_of_ble_eq_true rfl) ?_
  (refine ad ?_;(repeat' first|refine And.intro ?_ ?_|intro _);all_goals refine ah.mk ?_)
  (refine kj 2 [(0,false),(2,false),(1,true),(3,true),(4,true),(5,true)] R.mixed wx aj ?_;simp only [List.take_succ_cons,List.take_zero])
  (refine ad ?_;(repeat' first|refine And.intro ?_ ?_|intro _);all_goals refine ah.mk ?_;(all_goals (try (exact ⟨rfl,R.Own.below ww⟩))))
  ·rename_i hbl hr
   rw [e3]
   have hr2:(rW (a8 a.z).br (a8 b.z).br).n≠0:=by simpa using hr
   have e6:=e5 hr2
   have e7:=TZ h0 ww hr2 e6
   clear hr e5
   refine nN (.q 0 (.f 1 6 (.f 2 6 (.q 3 (.q 4 (.q 5 (.e 6 (.e 7 (.q 8 .nil)))))) (.e 2 (.q 3 (.q 4 (.q 5 (.e 7 (.q 8 .nil))))))) (.e 1 (.e 2 (.q 3 (.q 4 (.q 5 (.e 7 (.q 8 .nil))))))))) R.mixed wx aj ?_
   (refine ad ?_;(repeat' first|refine And.intro ?_ ?_|intro _);all_goals refine ah.mk ?_;(all_goals (try (exact ⟨rfl,R.Own.below ww⟩))))
   all_goals first|exact absurd e6 (by rename_i h _ _;simpa using h)|(rw [e7];exact ⟨rfl,R.Own.below ww⟩)
  ·have hr:(!decide ((rW (a8 a.z).br (a8 b.z).br).n=0))=false:=by assumption
   rw [e3,DV h0 (fun _=>by simpa using hr)]
   exact ⟨rfl,R.Own.below ww⟩
  ·have hr:(!((a8 a.z).neg == (a8 b.z).neg))=false:=by assumption
   rw [e3,DV h0 (fun h=>by rw [hr] at h;cases h)]
   exact ⟨rfl,R.Own.below ww⟩
instance ym (a b:Sg):bj Tryz.prog 478 #[.agg (cS a).toArray,.agg (cS b).toArray] Unit (fun _ _=>True) (fun _=>.tuple #[.agg (cS (Cd a b)).toArray,.int .i64 (eW b.br)]):=⟨fun _ w _=>aa7 a b w⟩
section
theorem gU (a b:Wd):(rR a b).n=Nat.gcd a.n b.n:=oP (Ac a b)
theorem QR (a b:Wd):(qW a b).n=a.n / b.n:=qF a _ (Nat.div_le_self _ _)
end
section
section
variable {a b:Rt}
theorem Yp {p q:Bool} (h:(!p)=true):(p&&q)=false:=by cases p <;> simp_all
theorem Yq {p q:Bool} (h:(!q)=true):(p&&q)=false:=by cases p <;> simp_all
theorem Yr {p q:Bool} (h:(!p)=false) (h1:(!q)=false):(p&&q)=true:=by cases p <;> cases q <;> simp_all
end
def aaZ (p:Bool):Int:=if p then 0 else 1
end
section
def oN (n num den:Int):Prop:=n<0∨num<0∨den≤0∨den<num
instance acL (n num den:Int):Decidable (oN n num den):=by unfold oN;infer_instance
def qG (n num den:Int):Int:=if oN n num den then 0 else n*num / den
def yi (n num den:Int):Int:=if oN n num den then 1 else 0
theorem On {n num den:Int} (hn:ao n) (_hm:ao num) (_hd:ao den) (hb:¬ oN n num den):Fs (fW (n*num)) (aw (n*num)) den=n*num / den∧0≤n*num / den∧n*num / den≤n:=by
 unfold oN at hb
 have h0:0≤n*num:=Int.mul_nonneg xj xj
 have h1:n*num≤n*den:=Int.mul_le_mul_of_nonneg_left xj xj
 have h2:n*num / den≤n:=Int.ediv_le_of_le_mul xj h1
 have h4:n*den≤9223372036854775807*den:=Int.mul_le_mul_of_nonneg_right (by unfold ao at hn;omega) xj
 have h3:fW (n*num)<den:=by
  unfold fW
  exact Int.ediv_lt_of_lt_mul xj xj
 refine ⟨?_,Int.ediv_nonneg h0 xj,h2⟩
 unfold Fs
 rw [if_pos h3]
 congr 1
 unfold fW aw
 omega
attribute [local irreducible] aq in
theorem aa0 (n num den:Int) (hn:ao n) (hm:ao num) (hd:ao den) (w:World):Calls Tryz.prog 127 #[.int .i64 n,.int .i64 num,.int .i64 den] w fun e w'=>e=.returned (.tuple #[.int .i64 (qG n num den),.int .i64 (yi n num den)])∧Below w.heap.size w w':=by
 have hM:=R.Own.start [] w
 by_cases hb:oN n num den
 ·have e1:qG n num den=0:=if_pos hb
  have e2:yi n num den=1:=if_pos hb
  rw [e1,e2]
  unfold oN at hb
  refine aa (fn:=Tryz.f127) Tryz.func127 rfl Tryz.ntmps127 (Nat.le_of_ble_eq_true rfl) ?_
  (refine ad ?_;(repeat' first|refine And.intro ?_ ?_|intro _);all_goals refine ah.mk ?_;(all_goals (try (exact ⟨rfl,R.Own.below ww⟩))))
 ·have e1:qG n num den=n*num / den:=if_neg hb
  have e2:yi n num den=0:=if_neg hb
  obtain ⟨e3,e4,e5⟩:=On hn hm hd hb
  rw [e1,e2]
  have hq:ao (Fs (fW (n*num)) (aw (n*num)) den):=by rw [e3];unfold ao at hn ⊢;omega
  have hl:=d6 (n*num)
  have hh:ai (fW (n*num)):=by
   have h0:0≤n*num:=by unfold oN at hb;exact Int.mul_nonneg xj xj
   have h3:n*num≤n*den:=Int.mul_le_mul_of_nonneg_left (by unfold oN at hb;omega) (by unfold oN at hb;omega)
   have h4:n*den≤9223372036854775807*den:=Int.mul_le_mul_of_nonneg_right (by unfold ao at hn;omega) (by unfold oN at hb;omega)
   unfold ai fW
   unfold ao at hd
   omega
  unfold oN at hb
  unfold ao at hn hm hd
  refine aa (fn:=Tryz.f127) Tryz.func127 rfl Tryz.ntmps127 (Nat.le_of_ble_eq_true rfl) ?_
  (refine ad ?_;(repeat' first|refine And.intro ?_ ?_|intro _);all_goals refine ah.mk ?_;(all_goals (try (exact ⟨rfl,R.Own.below ww⟩))))
  all_goals first
   | (rw [e3];exact ⟨rfl,R.Own.below ww⟩)
   | (exfalso;omega)
instance ZM (n num den:Int):bj Tryz.prog 127 #[.int .i64 n,.int .i64 num,.int .i64 den] Unit (fun _ _=>ao n∧ao num∧ao den) (fun _=>.tuple #[.int .i64 (qG n num den),.int .i64 (yi n num den)]):=⟨fun _ w h=>aa0 n num den h.1 h.2.1 h.2.2 w⟩
end
section
end
section
end
end Go.Proofs.YtlmabdegojeheaaGreatDoor
