/- WholeTurned: parts of its proof (Ov Dv Wb Qt). -/
import Derived.Test.YtlmabdegojeheaaGreatDoorUcRf3
import Derived.Test.YtlmabdegojeheaaGreatDoorNumWide2
import Derived.Test.YtlmabdegojeheaaGreatDoorVGo
namespace Go.Proofs.YtlmabdegojeheaaGreatDoor
open R Go.RowKit
section
end
section
namespace R
section
variable {P:Program} {n:Nat} {Q:Exit→Fr→World→Prop} {f:Fr} {w:World} {F:List Nat} {W:World} {L:List bX} {r1 r2 r3:bX} {id:Nat} {l:List Oper}
theorem nT (pl:List (Nat×Bool)) (hm:P.follows .mixedOrders=true) (hB:y6 l.toArray pl=true) (hM:Own F W w (r1::L))
  (h:∀ w1,Own F W w1 (r1::L)→WH P l.toArray n (fun w2=>Own F W w2 L) (fun f' w'=>Q .normal f' w') pl f w1):WC P n Q (.region id l.toArray true) f w :=
 nZ _ _ hm hB hM.drew.tl (h _ hM.drew)
end
end R
def lz (a:Int):Nat:=64-bitLen a.toNat
instance ac8 (a:Int):Dt Tryz.prog 296 #[.int .u64 a] Unit (fun _ _=>ai a) (fun _=>.int .i64 (lz a:Nat)):=⟨fun _ w h=>by
 unfold ai at h
 refine (Tryz.bits_LeadingZeros64 a w h.1 xj).mono ?_
 rintro e w' ⟨rfl,rfl⟩
 have h1:a.toNat<2 ^ 64:=by omega
 have h2:=fU h1
 rw [yt _ h1]
 exact ⟨by unfold lz;congr 2;omega,rfl⟩⟩
theorem Ma {y:Nat} (h0:0<y) (h1:y<18446744073709551616):lz (y:Int)≤63∧9223372036854775808≤y*2 ^ lz (y:Int)∧y*2 ^ lz (y:Int)<18446744073709551616:=by
 unfold lz
 rw [Int.toNat_natCast]
 obtain ⟨h2,h3⟩:=bitLen_spec y
 have h3:=h3 xj
 have h4:=fU (show y<2 ^ 64 from h1)
 have h5:0<bitLen y:=by
  rcases Nat.eq_zero_or_pos (bitLen y) with h5|h5
  ·rw [h5] at h2;simp at h2;omega
  ·exact h5
 refine ⟨by omega,?_,?_⟩
 ·have h6:2 ^ (bitLen y-1)*2 ^ (64-bitLen y)≤y*2 ^ (64-bitLen y):=Nat.mul_le_mul_right _ h3
  rw [← Nat.pow_add,show bitLen y-1+(64-bitLen y)=63 by omega] at h6
  exact h6
 ·have h6:y*2 ^ (64-bitLen y)<2 ^ bitLen y*2 ^ (64-bitLen y):=Nat.mul_lt_mul_of_pos_right h2 (Nat.two_pow_pos _)
  rw [← Nat.pow_add,show bitLen y+(64-bitLen y)=64 by omega] at h6
  exact h6
theorem Cj {h l y s:Nat} (hs:s≤63) (hh:h<y) (hl:l<18446744073709551616) (hY:y*2 ^ s<18446744073709551616) :
  ∃ u x,u=h*2 ^ s+l / 2 ^ (64-s)∧x=l*2 ^ s % 18446744073709551616∧u<y*2 ^ s∧(h*18446744073709551616+l)*2 ^ s=u*18446744073709551616+x∧l / 2 ^ (64-s)<2 ^ s∧h*2 ^ s<18446744073709551616:=by
 have e:(18446744073709551616:Nat)=2 ^ (64-s)*2 ^ s:=by rw [← Nat.pow_add,show 64-s+s=64 by omega]
 have h1:l*2 ^ s / 18446744073709551616=l / 2 ^ (64-s):=by rw [e,Nat.mul_div_mul_right _ _ (Nat.two_pow_pos _)]
 have h2:l / 2 ^ (64-s)<2 ^ s:=by
  refine (Nat.div_lt_iff_lt_mul (Nat.two_pow_pos _)).2 ?_
  rw [Nat.mul_comm,← e]
  exact hl
 have h3:(h+1)*2 ^ s≤y*2 ^ s:=Nat.mul_le_mul_right _ hh
 rw [Nat.add_mul,Nat.one_mul] at h3
 have h4:=Nat.div_add_mod (l*2 ^ s) 18446744073709551616
 rw [h1] at h4
 refine ⟨_,_,rfl,rfl,by omega,?_,h2,by omega⟩
 rw [Nat.add_mul,Nat.mul_right_comm h]
 omega
theorem Cm (x:Int) (h0:0≤x) (h1:x<18446744073709551616):bits .and .u64 x 4294967295=x % 4294967296:=bits_mask .u64 64 vj l7 32 vj x h0 h1
theorem fL {u x q y r:Nat} (h:u*4294967296+x=q*y+r) (hr:r<18446744073709551616):aw (aw (aw ((u:Int)*4294967296)+x)-aw ((q:Int)*y))=r:=by
 have h2:((u*4294967296+x:Nat):Int)=((q*y+r:Nat):Int):=by rw [h]
 rw [Int.natCast_add,Int.natCast_mul,Int.natCast_add,Int.natCast_mul] at h2
 unfold aw
 generalize (q:Int)*y=P at *
 omega
theorem Wf {u x x1 x0:Nat} (h1:x / 4294967296=x1) (h0:x % 4294967296=x0):u*18446744073709551616+x=(u*4294967296+x1)*4294967296+x0:=by omega
set_option maxHeartbeats 2000000 in
theorem JY (h l y:Nat) (hh:h<y) (hl:l<18446744073709551616) (hy:y<18446744073709551616) (w:World) :
  Calls Tryz.prog 248 #[.int .u64 h,.int .u64 l,.int .u64 y] w fun e w'=>e=.returned (.tuple #[.int .u64 ((h*18446744073709551616+l) / y:Nat),.int .u64 ((h*18446744073709551616+l) % y:Nat)])∧Below w.heap.size w w':=by
 have hM:=R.Own.start [] w
 obtain ⟨n1,n2,n3⟩:=Ma (by omega:0<y) hy
 obtain ⟨u,x,hu,hx,huY,hU,hlo,hhi⟩:=Cj n1 hh hl n3
 obtain ⟨Y,hY⟩:∃ Y,y*2 ^ lz (y:Int)=Y:=⟨_,rfl⟩
 rw [hY] at n2 n3 huY
 have v2:aw ((y:Int)*2 ^ ((lz (y:Int):Nat):Int).toNat)=(Y:Nat):=by rw [nM,hY,Nat.mod_eq_of_lt n3]
 have v3:bits .and .u64 ((Y:Nat):Int) 4294967295=((Y % 4294967296:Nat):Int):=by rw [Cm _ xj (by omega)];omega
 have v4:bits .or .u64 (aw ((h:Int)*2 ^ ((lz (y:Int):Nat):Int).toNat)) ((l:Int) / 2 ^ (64-((lz (y:Int):Nat):Int)).toNat)=(u:Nat):=by
  rw [nM,Nat.mod_eq_of_lt hhi,re l (64-lz (y:Int)) _ xj,Hh (lz (y:Int)) _ _ (Nat.mul_mod_left _ _) hhi hlo xj,hu]
 have v5:aw ((l:Int)*2 ^ ((lz (y:Int):Nat):Int).toNat)=(x:Nat):=by rw [nM,hx]
 have v6:bits .and .u64 ((x:Nat):Int) 4294967295=((x % 4294967296:Nat):Int):=by rw [Cm _ xj (by omega)];omega
 have v7:∀ z:Nat,((z:Nat):Int) / 2 ^ Int.toNat 32=((z / 4294967296:Nat):Int):=fun z=>by
  rw [show (2:Int) ^ Int.toNat 32=4294967296 from rfl];omega
 refine aa (fn:=Tryz.f248) Tryz.func248 rfl Tryz.ntmps248 (Nat.le_of_ble_eq_true rfl) ?_
 (refine ak ?_;(repeat' first|refine And.intro ?_ ?_|intro _);all_goals refine ah.mk ?_)
 ·have h0:h=0:=by omega
  subst h0
  simp
  exact R.Own.below ww
 ·rw [v2,v3,v4,v5,v6,v7,v7]
  have hy1:2147483648≤Y / 4294967296:=by omega
  have hx1:x / 4294967296<4294967296:=by omega
  have hx0:x % 4294967296<4294967296:=by omega
  have hlo1:(x / 4294967296)*4294967296+x % 4294967296=x:=by omega
  obtain ⟨k1,k2⟩:=vz (x:=x / 4294967296) huY hx1 n2 n3
  have kd:=fun q r=>x9 (q:=q) (r:=r) huY hx1
  have ke:=fun q r=>vA (x:=x / 4294967296) (q:=q) (r:=r) huY
  have kb:=fun q r=>vB (x:=x / 4294967296) (q:=q) (r:=r) huY
  have kl:=Ag huY hx1
  have kr:=oo (u:=u) (x:=x / 4294967296) (y:=Y) xj
  have hV1:Y % 4294967296<4294967296:=by omega
  obtain ⟨Z,hZ⟩:∃ Z,Y / 4294967296=Z:=⟨_,rfl⟩
  obtain ⟨V,hV⟩:∃ V,Y % 4294967296=V:=⟨_,rfl⟩
  obtain ⟨x1,hx1'⟩:∃ x1,x / 4294967296=x1:=⟨_,rfl⟩
  obtain ⟨x0,hx0'⟩:∃ x0,x % 4294967296=x0:=⟨_,rfl⟩
  rw [hZ] at hy1 k1 k2
  rw [hV] at hV1
  simp only [hV,hZ,hx1'] at kd ke kb kl kr k1 hx1
  have hUU:=Wf (u:=u) hx1' hx0'
  obtain ⟨T1,T2⟩:=Gk (Nat.lt_of_lt_of_le vj n2) hUU
  obtain ⟨R1,hR1⟩:∃ R1,(u*4294967296+x1) % Y=R1:=⟨_,rfl⟩
  obtain ⟨D,hD⟩:∃ D,mZ u x1 Y=D:=⟨_,rfl⟩
  rw [hR1,hD] at T1
  rw [hR1] at T2 kr
  rw [hD] at kr kl
  have S1:=scaled (N:=h*18446744073709551616+l) (y:=y) (s:=lz (y:Int))
  rw [hU,hY,← T1,← T2] at S1
  obtain ⟨j1,j2⟩:=vz (x:=x0) kr.2 xj n2 n3
  have jd:=fun q r=>x9 (q:=q) (r:=r) kr.2 (by omega:x0<4294967296)
  have je:=fun q r=>vA (x:=x0) (q:=q) (r:=r) kr.2
  have jb:=fun q r=>vB (x:=x0) (q:=q) (r:=r) kr.2
  have jl:=Ag kr.2 (by omega:x0<4294967296)
  have jr:=oo (u:=R1) (x:=x0) (y:=Y) xj
  simp only [hV,hZ] at jd je jb j1 j2
  obtain ⟨E,hE⟩:∃ E,mZ R1 x0 Y=E:=⟨_,rfl⟩
  obtain ⟨R2,hR2⟩:∃ R2,(R1*4294967296+x0) % Y=R2:=⟨_,rfl⟩
  rw [hE] at jl
  rw [hE,hR2] at jr S1
  have m2:R1 / Z*Z≤R1:=Nat.div_mul_le_self _ _
  clear T1 T2 hU hhi hlo hx hu hlo1 hUU
  have fin:∀ w1,R.Own [] w w1 []→Ending.returned (.tuple #[.int .u64 ((D:Int)*4294967296+E),.int .u64 ((R2:Int) / 2 ^ ((lz (y:Int):Nat):Int).toNat)])=Ending.returned (.tuple #[.int .u64 ((h*18446744073709551616+l) / y:Nat),.int .u64 ((h*18446744073709551616+l) % y:Nat)])∧Below w.heap.size w w1:=fun w1 hM=>by
   rw [re R2 (lz (y:Int)) _ (Int.toNat_natCast _),S1.2,← S1.1,Int.natCast_add,Int.natCast_mul]
   exact ⟨rfl,hM.below⟩
  rw [hx0'] at hx0
  rw [hZ,hV,hx1',hx0']
  have m1:u / Z*Z≤u:=Nat.div_mul_le_self _ _
  (refine ak ?_;(repeat' first|refine And.intro ?_ ?_|intro _);all_goals refine ah.mk ?_)
  refine au (fun s:Nat×Nat=>[(2,.int .u64 (Y:Nat)),(6,.int .u64 0),(7,.int .u64 0),(8,.int .u64 (lz (y:Int):Nat)),(9,.int .u64 (Z:Nat)),(10,.int .u64 (V:Nat)),(11,.int .u64 (u:Nat)),(13,.int .u64 (x1:Nat)),(14,.int .u64 (x0:Nat)),(15,.int .u64 (s.1:Nat)),(16,.int .u64 (s.2:Nat))])
   (fun s w1=>Ah u x1 Y s.1 s.2∧s.2<4294967296∧R.Own [] w w1 []) (fun s=>s.1) ⟨(u / Z,u % Z),⟨rfl,rfl,rfl,rfl,rfl,rfl,rfl,rfl,rfl,rfl,aF rfl ?_,trivial⟩,k1,k2,hM⟩ ?_
  ·have e1:(u:Int) / Z*Z=((u / Z*Z:Nat):Int):=by rw [Int.natCast_mul];rfl
   have e2:=Nat.div_add_mod u Z
   rw [Nat.mul_comm] at e2
   rw [e1]
   dsimp only
   unfold aw
   omega
  rintro ⟨q,r⟩ f w1 ⟨hS,hr,hM⟩
  dsimp only at hS hr hM ⊢
  have hq:=hS.le
  have done:∀ q',q'=mZ u x1 Y→∀ v:Int,v=q'→v=((D:Nat):Int):=fun q' h v hv=>by rw [hv,h,hD]
  have done2:∀ q',q'=mZ R1 x0 Y→∀ v:Int,v=q'→v=((E:Nat):Int):=fun q' h v hv=>by rw [hv,h,hE]
  by_cases hc:4294967296≤q
  ·obtain ⟨c1,c2⟩:=kd q r hS (.inl hc)
   (refine ak ?_;(repeat' first|refine And.intro ?_ ?_|intro _);all_goals refine ah.mk ?_)
   ·rw [done _ (kb _ _ c2 xj xj) ((q:Int)-1) (by omega)]
    rw [fL kr.1 (by omega)]
    (refine ak ?_;(repeat' first|refine And.intro ?_ ?_|intro _);all_goals refine ah.mk ?_)
    refine au (fun s:Nat×Nat=>[(2,.int .u64 (Y:Nat)),(6,.int .u64 0),(7,.int .u64 0),(8,.int .u64 (lz (y:Int):Nat)),(9,.int .u64 (Z:Nat)),(10,.int .u64 (V:Nat)),(14,.int .u64 (x0:Nat)),(15,.int .u64 (D:Nat)),(17,.int .u64 (R1:Nat)),(18,.int .u64 (s.1:Nat)),(16,.int .u64 (s.2:Nat))])
     (fun s w1=>Ah R1 x0 Y s.1 s.2∧s.2<4294967296∧R.Own [] w w1 []) (fun s=>s.1) ⟨(R1 / Z,R1 % Z),⟨rfl,rfl,rfl,rfl,rfl,rfl,rfl,rfl,rfl,rfl,aF rfl ?_,trivial⟩,j1,j2,by assumption⟩ ?_
    ·have e1:(R1:Int) / Z*Z=((R1 / Z*Z:Nat):Int):=by rw [Int.natCast_mul];rfl
     have e2:=Nat.div_add_mod R1 Z
     rw [Nat.mul_comm] at e2
     rw [e1]
     dsimp only
     unfold aw
     omega
    clear hS hr hq hc
    rintro ⟨q,r⟩ f w1 ⟨hS,hr,hM⟩
    dsimp only at hS hr hM ⊢
    have hq:=hS.le
    by_cases hc:4294967296≤q
    ·obtain ⟨c1,c2⟩:=jd q r hS (.inl hc)
     (refine ak ?_;(repeat' first|refine And.intro ?_ ?_|intro _);all_goals refine ah.mk ?_)
     ·rw [done2 _ (jb _ _ c2 xj xj) ((q:Int)-1) (by omega)]
      rw [fL jr.1 (by omega)]
      first|exact fin _ hM|(rw [eL (by unfold ai;omega)];exact fin _ hM)
     ·exact ⟨(q-1,r+Z),⟨rfl,rfl,rfl,rfl,rfl,rfl,rfl,rfl,rfl,aF rfl (by dsimp only;omega),aF rfl (by dsimp only;omega),trivial⟩,⟨c2,by dsimp only;omega,hM⟩,by dsimp only;omega⟩
    ·have hb:q*V≤4294967295*4294967295:=Nat.mul_le_mul xj xj
     have hcast:((q*V:Nat):Int)=(q:Int)*V:=Int.natCast_mul ..
     by_cases hc2:r*4294967296+x0<q*V
     ·obtain ⟨c1,c2⟩:=jd q r hS (.inr hc2)
      (refine ak ?_;(repeat' first|refine And.intro ?_ ?_|intro _);all_goals refine ah.mk ?_)
      ·rw [done2 _ (jb _ _ c2 xj xj) ((q:Int)-1) (by omega)]
       rw [fL jr.1 (by omega)]
       first|exact fin _ hM|(rw [eL (by unfold ai;omega)];exact fin _ hM)
      ·exact ⟨(q-1,r+Z),⟨rfl,rfl,rfl,rfl,rfl,rfl,rfl,rfl,rfl,aF rfl (by dsimp only;omega),aF rfl (by dsimp only;omega),trivial⟩,⟨c2,by dsimp only;omega,hM⟩,by dsimp only;omega⟩
     ·(refine ak ?_;(repeat' first|refine And.intro ?_ ?_|intro _);all_goals refine ah.mk ?_)
      rw [done2 _ (je _ _ hS hc2) (q:Int) rfl]
      rw [fL jr.1 (by omega)]
      first|exact fin _ hM|(rw [eL (by unfold ai;omega)];exact fin _ hM)
   ·exact ⟨(q-1,r+Z),⟨rfl,rfl,rfl,rfl,rfl,rfl,rfl,rfl,rfl,aF rfl (by dsimp only;omega),aF rfl (by dsimp only;omega),trivial⟩,⟨c2,by dsimp only;omega,hM⟩,by dsimp only;omega⟩
  ·have hb:q*V≤4294967295*4294967295:=Nat.mul_le_mul xj xj
   have hcast:((q*V:Nat):Int)=(q:Int)*V:=Int.natCast_mul ..
   by_cases hc2:r*4294967296+x1<q*V
   ·obtain ⟨c1,c2⟩:=kd q r hS (.inr hc2)
    (refine ak ?_;(repeat' first|refine And.intro ?_ ?_|intro _);all_goals refine ah.mk ?_)
    ·rw [done _ (kb _ _ c2 xj xj) ((q:Int)-1) (by omega)]
     rw [fL kr.1 (by omega)]
     (refine ak ?_;(repeat' first|refine And.intro ?_ ?_|intro _);all_goals refine ah.mk ?_)
     refine au (fun s:Nat×Nat=>[(2,.int .u64 (Y:Nat)),(6,.int .u64 0),(7,.int .u64 0),(8,.int .u64 (lz (y:Int):Nat)),(9,.int .u64 (Z:Nat)),(10,.int .u64 (V:Nat)),(14,.int .u64 (x0:Nat)),(15,.int .u64 (D:Nat)),(17,.int .u64 (R1:Nat)),(18,.int .u64 (s.1:Nat)),(16,.int .u64 (s.2:Nat))])
      (fun s w1=>Ah R1 x0 Y s.1 s.2∧s.2<4294967296∧R.Own [] w w1 []) (fun s=>s.1) ⟨(R1 / Z,R1 % Z),⟨rfl,rfl,rfl,rfl,rfl,rfl,rfl,rfl,rfl,rfl,aF rfl ?_,trivial⟩,j1,j2,by assumption⟩ ?_
     ·have e1:(R1:Int) / Z*Z=((R1 / Z*Z:Nat):Int):=by rw [Int.natCast_mul];rfl
      have e2:=Nat.div_add_mod R1 Z
      rw [Nat.mul_comm] at e2
      rw [e1]
      dsimp only
      unfold aw
      omega
     clear hS hr hq hc
     rintro ⟨q,r⟩ f w1 ⟨hS,hr,hM⟩
     dsimp only at hS hr hM ⊢
     have hq:=hS.le
     by_cases hc:4294967296≤q
     ·obtain ⟨c1,c2⟩:=jd q r hS (.inl hc)
      (refine ak ?_;(repeat' first|refine And.intro ?_ ?_|intro _);all_goals refine ah.mk ?_)
      ·rw [done2 _ (jb _ _ c2 xj xj) ((q:Int)-1) (by omega)]
       rw [fL jr.1 (by omega)]
       first|exact fin _ hM|(rw [eL (by unfold ai;omega)];exact fin _ hM)
      ·exact ⟨(q-1,r+Z),⟨rfl,rfl,rfl,rfl,rfl,rfl,rfl,rfl,rfl,aF rfl (by dsimp only;omega),aF rfl (by dsimp only;omega),trivial⟩,⟨c2,by dsimp only;omega,hM⟩,by dsimp only;omega⟩
     ·have hb:q*V≤4294967295*4294967295:=Nat.mul_le_mul xj xj
      have hcast:((q*V:Nat):Int)=(q:Int)*V:=Int.natCast_mul ..
      by_cases hc2:r*4294967296+x0<q*V
      ·obtain ⟨c1,c2⟩:=jd q r hS (.inr hc2)
       (refine ak ?_;(repeat' first|refine And.intro ?_ ?_|intro _);all_goals refine ah.mk ?_)
       ·rw [done2 _ (jb _ _ c2 xj xj) ((q:Int)-1) (by omega)]
        rw [fL jr.1 (by omega)]
        first|exact fin _ hM|(rw [eL (by unfold ai;omega)];exact fin _ hM)
       ·exact ⟨(q-1,r+Z),⟨rfl,rfl,rfl,rfl,rfl,rfl,rfl,rfl,rfl,aF rfl (by dsimp only;omega),aF rfl (by dsimp only;omega),trivial⟩,⟨c2,by dsimp only;omega,hM⟩,by dsimp only;omega⟩
      ·(refine ak ?_;(repeat' first|refine And.intro ?_ ?_|intro _);all_goals refine ah.mk ?_)
       rw [done2 _ (je _ _ hS hc2) (q:Int) rfl]
       rw [fL jr.1 (by omega)]
       first|exact fin _ hM|(rw [eL (by unfold ai;omega)];exact fin _ hM)
    ·exact ⟨(q-1,r+Z),⟨rfl,rfl,rfl,rfl,rfl,rfl,rfl,rfl,rfl,aF rfl (by dsimp only;omega),aF rfl (by dsimp only;omega),trivial⟩,⟨c2,by dsimp only;omega,hM⟩,by dsimp only;omega⟩
   ·(refine ak ?_;(repeat' first|refine And.intro ?_ ?_|intro _);all_goals refine ah.mk ?_)
    rw [done _ (ke _ _ hS hc2) (q:Int) rfl]
    rw [fL kr.1 (by omega)]
    (refine ak ?_;(repeat' first|refine And.intro ?_ ?_|intro _);all_goals refine ah.mk ?_)
    refine au (fun s:Nat×Nat=>[(2,.int .u64 (Y:Nat)),(6,.int .u64 0),(7,.int .u64 0),(8,.int .u64 (lz (y:Int):Nat)),(9,.int .u64 (Z:Nat)),(10,.int .u64 (V:Nat)),(14,.int .u64 (x0:Nat)),(15,.int .u64 (D:Nat)),(17,.int .u64 (R1:Nat)),(18,.int .u64 (s.1:Nat)),(16,.int .u64 (s.2:Nat))])
     (fun s w1=>Ah R1 x0 Y s.1 s.2∧s.2<4294967296∧R.Own [] w w1 []) (fun s=>s.1) ⟨(R1 / Z,R1 % Z),⟨rfl,rfl,rfl,rfl,rfl,rfl,rfl,rfl,rfl,rfl,aF rfl ?_,trivial⟩,j1,j2,by assumption⟩ ?_
    ·have e1:(R1:Int) / Z*Z=((R1 / Z*Z:Nat):Int):=by rw [Int.natCast_mul];rfl
     have e2:=Nat.div_add_mod R1 Z
     rw [Nat.mul_comm] at e2
     rw [e1]
     dsimp only
     unfold aw
     omega
    clear hS hr hq hc
    rintro ⟨q,r⟩ f w1 ⟨hS,hr,hM⟩
    dsimp only at hS hr hM ⊢
    have hq:=hS.le
    by_cases hc:4294967296≤q
    ·obtain ⟨c1,c2⟩:=jd q r hS (.inl hc)
     (refine ak ?_;(repeat' first|refine And.intro ?_ ?_|intro _);all_goals refine ah.mk ?_)
     ·rw [done2 _ (jb _ _ c2 xj xj) ((q:Int)-1) (by omega)]
      rw [fL jr.1 (by omega)]
      first|exact fin _ hM|(rw [eL (by unfold ai;omega)];exact fin _ hM)
     ·exact ⟨(q-1,r+Z),⟨rfl,rfl,rfl,rfl,rfl,rfl,rfl,rfl,rfl,aF rfl (by dsimp only;omega),aF rfl (by dsimp only;omega),trivial⟩,⟨c2,by dsimp only;omega,hM⟩,by dsimp only;omega⟩
    ·have hb:q*V≤4294967295*4294967295:=Nat.mul_le_mul xj xj
     have hcast:((q*V:Nat):Int)=(q:Int)*V:=Int.natCast_mul ..
     by_cases hc2:r*4294967296+x0<q*V
     ·obtain ⟨c1,c2⟩:=jd q r hS (.inr hc2)
      (refine ak ?_;(repeat' first|refine And.intro ?_ ?_|intro _);all_goals refine ah.mk ?_)
      ·rw [done2 _ (jb _ _ c2 xj xj) ((q:Int)-1) (by omega)]
       rw [fL jr.1 (by omega)]
       first|exact fin _ hM|(rw [eL (by unfold ai;omega)];exact fin _ hM)
      ·exact ⟨(q-1,r+Z),⟨rfl,rfl,rfl,rfl,rfl,rfl,rfl,rfl,rfl,aF rfl (by dsimp only;omega),aF rfl (by dsimp only;omega),trivial⟩,⟨c2,by dsimp only;omega,hM⟩,by dsimp only;omega⟩
     ·(refine ak ?_;(repeat' first|refine And.intro ?_ ?_|intro _);all_goals refine ah.mk ?_)
      rw [done2 _ (je _ _ hS hc2) (q:Int) rfl]
      rw [fL jr.1 (by omega)]
      first|exact fin _ hM|(rw [eL (by unfold ai;omega)];exact fin _ hM)
def Fs (h l y:Int):Int:=if h<y then (h*18446744073709551616+l) / y else 0
def Mb (h l y:Int):Int:=if h<y then (h*18446744073709551616+l) % y else 0
theorem QY (h l y:Int) (hh:ai h) (hl:ai l) (hy:ai y) (w:World) :
  Calls Tryz.prog 186 #[.int .u64 h,.int .u64 l,.int .u64 y] w fun e w'=>e=.returned (.tuple #[.int .u64 (Fs h l y),.int .u64 (Mb h l y),.bool (decide (h<y))])∧Below w.heap.size w w':=by
 have hM:=R.Own.start [] w
 by_cases hc:h<y
 ·unfold ai at hh hl hy
  have e1:Fs h l y=((h.toNat*18446744073709551616+l.toNat) / y.toNat:Nat):=by
   unfold Fs
   rw [if_pos hc,Int.natCast_ediv,Int.natCast_add,Int.natCast_mul,Int.toNat_of_nonneg hh.1,Int.toNat_of_nonneg hl.1,Int.toNat_of_nonneg hy.1]
   rfl
  have e2:Mb h l y=((h.toNat*18446744073709551616+l.toNat) % y.toNat:Nat):=by
   unfold Mb
   rw [if_pos hc,Int.natCast_emod,Int.natCast_add,Int.natCast_mul,Int.toNat_of_nonneg hh.1,Int.toNat_of_nonneg hl.1,Int.toNat_of_nonneg hy.1]
   rfl
  have key:=JY h.toNat l.toNat y.toNat xj xj xj
  rw [← e1,← e2,Int.toNat_of_nonneg hh.1,Int.toNat_of_nonneg hl.1,Int.toNat_of_nonneg hy.1] at key
  rw [decide_eq_true hc]
  clear e1 e2
  refine aa (fn:=Tryz.f186) Tryz.func186 rfl Tryz.ntmps186 (Nat.le_of_ble_eq_true rfl) ?_
  (refine ak ?_;(repeat' first|refine And.intro ?_ ?_|intro _);all_goals refine ah.mk ?_)
  refine fF rfl rfl vv vv vv ?_
  refine (key _).mono ?_
  rintro e w1 ⟨rfl,hb⟩
  have hM:=hM.call hb
  refine ⟨_,rfl,?_⟩
  (refine ak ?_;(repeat' first|refine And.intro ?_ ?_|intro _);all_goals refine ah.mk ?_)
  exact ⟨rfl,R.Own.below ww⟩
 ·have e1:Fs h l y=0:=by unfold Fs;rw [if_neg hc]
  have e2:Mb h l y=0:=by unfold Mb;rw [if_neg hc]
  rw [e1,e2,decide_eq_false hc]
  refine aa (fn:=Tryz.f186) Tryz.func186 rfl Tryz.ntmps186 (Nat.le_of_ble_eq_true rfl) ?_
  (refine ak ?_;(repeat' first|refine And.intro ?_ ?_|intro _);all_goals refine ah.mk ?_)
  exact ⟨rfl,R.Own.below ww⟩
instance ab1 (h l y:Int):bj Tryz.prog 186 #[.int .u64 h,.int .u64 l,.int .u64 y] Unit (fun _ _=>ai h∧ai l∧ai y) (fun _=>.tuple #[.int .u64 (Fs h l y),.int .u64 (Mb h l y),.bool (decide (h<y))]):=⟨fun _ w h'=>QY h l y h'.1 h'.2.1 h'.2.2 w⟩
instance Mc (a b:Int):Dt Tryz.prog 114 #[.int .u64 a,.int .u64 b] Unit (fun _ _=>ai a∧ai b) (fun _=>.tuple #[.int .u64 (fW (a*b)),.int .u64 (aw (a*b))]):=⟨fun _ w h=>BH a b h.1 h.2 w⟩
end
theorem PW (a n:Nat):PN a (n:Int)=a*2 ^ n % aq:=by
 unfold PN
 rw [if_neg xj,Int.toNat_natCast]
theorem PX (a n:Nat) (ha:a<aq):PN a (-(n:Int))=a / 2 ^ n:=by
 unfold PN
 by_cases h:n=0
 ·subst h;simp [Nat.mod_eq_of_lt ha]
 ·rw [if_pos xj,show (-(-(n:Int))).toNat=n by omega]
theorem U0 (a n:Nat) (h:bitLen a+n≤512):a*2 ^ n<aq:=by
 obtain ⟨N,hN,hw⟩:=qV
 have h1:=(bitLen_spec a).1
 have h2:a*2 ^ n<2 ^ bitLen a*2 ^ n:=Nat.mul_lt_mul_of_pos_right h1 (Nat.two_pow_pos _)
 rw [← Nat.pow_add] at h2
 rw [hw]
 exact Nat.lt_of_lt_of_le h2 (Nat.pow_le_pow_right xj xj)
theorem V0 (a:Wd):bitLen a.n≤512:=by
 obtain ⟨N,hN,hw⟩:=qV
 rw [← hN]
 exact fU (by rw [← hw];exact a.lt)
section
theorem K7 (a k:Nat):a / fI k=a / fI (k+1)*18446744073709551616+wd a k:=by
 unfold wd
 rw [← gQ,← gQ,show 64*(k+1)=64*k+64 by omega,Nat.pow_add,← Nat.div_div_eq_div_mul,show (2:Nat) ^ 64=18446744073709551616 from rfl]
 generalize a / 2 ^ (64*k)=x
 omega
theorem GD {a y k:Nat} (ha:a<aq) (hk:k<8) (hy:0<y) :
  stW (W (a / fI (k+1) / y*fI (k+1))) k (((a / fI (k+1) % y*18446744073709551616+wd a k) / y:Nat):Int)=W (a / fI k / y*fI k)∧(a / fI (k+1) % y*18446744073709551616+wd a k) % y=a / fI k % y∧(a / fI (k+1) % y*18446744073709551616+wd a k) / y<18446744073709551616:=by
 have hw:=gb a k
 obtain ⟨h1,h2⟩:=NT (A:=a / fI (k+1)) (w:=wd a k) (M:=18446744073709551616) hy
 rw [← K7] at h1 h2
 have hlt:(a / fI (k+1) % y*18446744073709551616+wd a k) / y<18446744073709551616:=by
  refine (Nat.div_lt_iff_lt_mul hy).2 ?_
  have h3:=Nat.mod_lt (a / fI (k+1)) hy
  have h4:(a / fI (k+1) % y+1)*18446744073709551616≤y*18446744073709551616:=Nat.mul_le_mul_right _ h3
  generalize a / fI (k+1) % y=r at *
  omega
 refine ⟨?_,h2.symm,hlt⟩
 have hb:∀ k,a / fI k / y*fI k<aq:=fun k=>by
  refine Nat.lt_of_le_of_lt ?_ ha
  rw [Nat.div_div_eq_div_mul,Nat.mul_comm (fI k),← Nat.div_div_eq_div_mul]
  exact Nat.le_trans (Nat.div_mul_le_self _ _) (Nat.div_le_self _ _)
 refine Wd.lq ?_
 rw [PK hk ⟨Int.natCast_nonneg _,Int.ofNat_lt.2 hlt⟩,oP (hb _),oP (hb _),Int.toNat_natCast,h1]
 generalize (a / fI (k+1) % y*18446744073709551616+wd a k) / y=d at *
 generalize a / fI (k+1) / y=t at *
 unfold kH
 have e:fI (k+1)=fI k*18446744073709551616:=by rw [← gQ,← gQ,show 64*(k+1)=64*k+64 by omega,Nat.pow_add]
 have e1:t*fI (k+1) % fI k=0:=by rw [e,Nat.mul_left_comm,Nat.mul_mod_right]
 have e2:t*fI (k+1) / fI (k+1)=t:=Nat.mul_div_cancel _ (IU _)
 simp only [gQ]
 rw [e1,e2,Nat.zero_add,Nat.mul_comm (fI k),Nat.add_comm d,Nat.mul_comm t]
theorem TF (h l y:Nat) (hy:h<y):Fs (h:Int) l y=((h*18446744073709551616+l) / y:Nat)∧Mb (h:Int) l y=((h*18446744073709551616+l) % y:Nat):=by
 unfold Fs Mb
 rw [if_pos xj,if_pos (by omega)]
 exact ⟨by rw [Int.natCast_ediv,Int.natCast_add,Int.natCast_mul];rfl,by rw [Int.natCast_emod,Int.natCast_add,Int.natCast_mul];rfl⟩
theorem Wd.lt8 (a:Wd):a.n<fI 8:=a.lt
attribute [local irreducible] aq in
set_option maxHeartbeats 1000000 in
theorem K8 (a:Wd) (y:Int) (hy:ai y) (hy0:0<y) (w:World):Calls Tryz.prog 236 #[.agg (cW a).toArray,.int .u64 y] w fun e w'=>e=.returned (.tuple #[.agg (cW (W (a.n / y.toNat))).toArray,.agg (cW (W (a.n % y.toNat))).toArray])∧Below w.heap.size w w':=by
 have hM:=R.Own.start [] w
 unfold ai at hy
 obtain ⟨y,rfl⟩:=Int.eq_ofNat_of_zero_le hy.1
 rw [Int.toNat_natCast]
 have hy0':0<y:=by omega
 refine aa (fn:=Tryz.f236) Tryz.func236 rfl Tryz.ntmps236 (Nat.le_of_ble_eq_true rfl) ?_
 (refine ak ?_;(repeat' first|refine And.intro ?_ ?_|intro _);all_goals refine ah.mk ?_)
 rename_i g1 _ _ g2 _ _ g3 w1 hM
 refine au (fun k:Nat=>[(1,.int .u64 (y:Nat)),(2,.pointer (some ⟨g1,0,none⟩)),(4,.pointer (some ⟨g2,0,none⟩)),(5,.pointer (some ⟨g3,0,none⟩)),(6,.int .u64 (a.n / fI k % y:Nat)),(7,.int .i64 ((k:Int)-1))])
  (fun k w2=>k≤8∧R.Own [] w w2 [.blk g3 109 (cW (W 0)),.blk g2 109 (cW (W (a.n / fI k / y*fI k))),.blk g1 109 (cW a)]) (fun k=>k)
  ⟨8,⟨rfl,rfl,rfl,rfl,aF rfl ?_,rfl,trivial⟩,by omega,?_⟩ ?_
 ·rw [Nat.div_eq_of_lt a.lt8,Nat.zero_mod];rfl
 ·rw [Nat.div_eq_of_lt a.lt8,Nat.zero_div,Nat.zero_mul];exact hM
 rintro k f w2 ⟨hk,hM⟩
 rcases k with _|k
 ·simp only [show fI 0=1 from rfl,Nat.div_one,Nat.mul_one] at hM ⊢
  have hml:=Nat.mod_lt a.n hy0'
  have hK:=ah.mk hM
  clear hM
  (refine ak ?_;(repeat' first|refine And.intro ?_ ?_|intro _);all_goals refine ah.mk ?_)
  have hM:=hK.out
  refine nT [(0,false),(1,false),(2,true),(3,true),(4,true)] R.mixed wx aj ?_
  (refine ak ?_;(repeat' first|refine And.intro ?_ ?_|intro _);all_goals refine ah.mk ?_)
  rw [Int.toNat_natCast]
  exact ⟨rfl,R.Own.below ww⟩
 ·have e3:(((k+1:Nat):Int)-1)=(k:Nat):=by omega
  rw [e3]
  obtain ⟨s1,s2,s3⟩:=GD a.lt (by omega:k<8) hy0'
  have hml:=Nat.mod_lt (a.n / fI (k+1)) hy0'
  have hw:=gb a.n k
  obtain ⟨d1,d2⟩:=TF (a.n / fI (k+1) % y) (wd a.n k) y hml
  have d3:0≤Fs ((a.n / fI (k+1) % y:Nat):Int) (wd a.n k:Nat) y∧Fs ((a.n / fI (k+1) % y:Nat):Int) (wd a.n k:Nat) y<18446744073709551616:=by rw [d1];exact ⟨Int.natCast_nonneg _,Int.ofNat_lt.2 s3⟩
  have d4:Mb ((a.n / fI (k+1) % y:Nat):Int) (wd a.n k:Nat) y=((a.n / fI k % y:Nat):Int):=by rw [d2,s2]
  rw [← d1] at s1
  (refine ak ?_;(repeat' first|refine And.intro ?_ ?_|intro _);all_goals refine ah.mk ?_)
  rename_i w5 hM
  rw [s1] at hM
  exact ⟨k,⟨rfl,rfl,rfl,rfl,aF rfl d4,aF rfl xj,trivial⟩,⟨by omega,hM⟩,by omega⟩
attribute [local irreducible] aq in
set_option maxHeartbeats 1000000 in
theorem short_zero (a:Wd) (w:World):Calls Tryz.prog 236 #[.agg (cW a).toArray,.int .u64 0] w fun e w'=>e=.returned (.tuple #[.agg (cW (W 0)).toArray,.agg (cW (W 0)).toArray])∧Below w.heap.size w w':=by
 have hM:=R.Own.start [] w
 refine aa (fn:=Tryz.f236) Tryz.func236 rfl Tryz.ntmps236 (Nat.le_of_ble_eq_true rfl) ?_
 (refine ak ?_;(repeat' first|refine And.intro ?_ ?_|intro _);all_goals refine ah.mk ?_)
 rename_i g1 _ _ g2 _ _ g3 w1 hM
 refine au (fun k:Nat=>[(1,.int .u64 0),(2,.pointer (some ⟨g1,0,none⟩)),(4,.pointer (some ⟨g2,0,none⟩)),(5,.pointer (some ⟨g3,0,none⟩)),(6,.int .u64 0),(7,.int .i64 ((k:Int)-1))])
  (fun k w2=>k≤8∧R.Own [] w w2 [.blk g3 109 (cW (W 0)),.blk g2 109 (cW (W 0)),.blk g1 109 (cW a)]) (fun k=>k)
  ⟨8,⟨rfl,rfl,rfl,rfl,rfl,rfl,trivial⟩,by omega,hM⟩ ?_
 rintro k f w2 ⟨hk,hM⟩
 rcases k with _|k
 ·have hK:=ah.mk hM
  clear hM
  (refine ak ?_;(repeat' first|refine And.intro ?_ ?_|intro _);all_goals refine ah.mk ?_)
  have hM:=hK.out
  refine nT [(0,false),(1,false),(2,true),(3,true),(4,true)] R.mixed wx aj ?_
  (refine ak ?_;(repeat' first|refine And.intro ?_ ?_|intro _);all_goals refine ah.mk ?_)
  exact ⟨rfl,R.Own.below ww⟩
 ·have e3:(((k+1:Nat):Int)-1)=(k:Nat):=by omega
  rw [e3]
  have hw:=gb a.n k
  have d1:Fs 0 (wd a.n k:Nat) 0=0:=by unfold Fs;rw [if_neg (by omega)]
  have d2:Mb 0 (wd a.n k:Nat) 0=0:=by unfold Mb;rw [if_neg (by omega)]
  have s1:stW (W 0) k 0=W 0:=by
   refine Wd.lq ?_
   rw [PK xj (by unfold ai;omega),oP bK]
   simp [kH]
  (refine ak ?_;(repeat' first|refine And.intro ?_ ?_|intro _);all_goals refine ah.mk ?_)
  rename_i w5 hM
  rw [d1,s1] at hM
  exact ⟨k,⟨rfl,rfl,rfl,rfl,aF rfl d2,aF rfl xj,trivial⟩,⟨by omega,hM⟩,by omega⟩
def tc (a y:Nat):Wd:=if y=0 then W 0 else W (a % y)
instance ZL (a:Wd) (y:Int):bj Tryz.prog 236 #[.agg (cW a).toArray,.int .u64 y] Unit (fun _ _=>ai y) (fun _=>.tuple #[.agg (cW (W (a.n / y.toNat))).toArray,.agg (cW (tc a.n y.toNat)).toArray]):=⟨fun _ w h=>by
 unfold tc
 by_cases h0:y=0
 ·subst h0
  rw [show (0:Int).toNat=0 from rfl,Nat.div_zero,if_pos rfl]
  exact short_zero a w
 ·have:0<y:=by unfold ai at h;omega
  rw [if_neg (by omega)]
  exact K8 a y h this w⟩
theorem Oj (b:Wd) (k:Nat) (h:bitLen b.n+k≤512):(Ju b (k:Int)).n=b.n*2 ^ k:=by
 show PN b.n k=_
 rw [PW,Nat.mod_eq_of_lt (U0 _ _ h)]
theorem qE (x y:Nat):mL x y<0↔x<y:=by
 unfold mL
 split
 ·simp [*]
 ·split <;> simp [*]
theorem qF (a:Wd) (n:Nat) (h:n≤a.n):(W n).n=n:=oP (Nat.lt_of_le_of_lt h a.lt)
theorem Yo:bitLen (W 1).n=1:=by rw [oP (fV vj)];rfl
end
section
def qW (a b:Wd):Wd:=W (a.n / b.n)
def rW (a b:Wd):Wd:=tc a.n b.n
def eW (b:Wd):Int:=if b.n=0 then 1 else 0
theorem Ok (b:Wd):b=W ((wd b.n 0:Nat):Int).toNat↔b.n<18446744073709551616:=by
 have h1:=gb b.n 0
 have e:wd b.n 0=b.n % 18446744073709551616:=by unfold wd;rw [Nat.mul_zero,Nat.pow_zero,Nat.div_one]
 rw [Wd.ext_iff,Int.toNat_natCast,oP (fV h1),e]
 omega
theorem Ol {x:Nat} (h:0<x):0<bitLen x:=by
 rcases Nat.eq_zero_or_pos (bitLen x) with h1|h1
 ·have:=(bitLen_spec x).1
  rw [h1] at this;simp at this;omega
 ·exact h1
theorem GF (a b:Wd) (h0:0<b.n):rT a.n b.n ((bitLen a.n:Int)-bitLen b.n+1).toNat 0 a.n:=by
 refine rT.start ?_
 obtain ⟨h1,_⟩:=bitLen_spec a.n
 obtain ⟨_,h2⟩:=bitLen_spec b.n
 have h2:=h2 xj
 have hb:=Ol h0
 have h3:2 ^ (bitLen b.n-1)*2 ^ ((bitLen a.n:Int)-bitLen b.n+1).toNat≤b.n*2 ^ ((bitLen a.n:Int)-bitLen b.n+1).toNat:=Nat.mul_le_mul_right _ h2
 rw [← Nat.pow_add] at h3
 have h4:2 ^ bitLen a.n≤2 ^ (bitLen b.n-1+((bitLen a.n:Int)-bitLen b.n+1).toNat):=Nat.pow_le_pow_right vj xj
 omega
attribute [local irreducible] aq in
set_option maxHeartbeats 2000000 in
theorem Om (a b:Wd) (w:World):Calls Tryz.prog 180 #[.agg (cW a).toArray,.agg (cW b).toArray] w fun e w'=>e=.returned (.tuple #[.agg (cW (qW a b)).toArray,.agg (cW (rW a b)).toArray,.int .i64 (eW b)])∧Below w.heap.size w w':=by
 have hM:=R.Own.start [] w
 by_cases h0:b.n=0
 ·have e1:qW a b=W 0:=by unfold qW;rw [h0,Nat.div_zero]
  have e2:rW a b=W 0:=by unfold rW tc;rw [if_pos h0]
  have e3:eW b=1:=by unfold eW;rw [if_pos h0]
  rw [e1,e2,e3]
  refine aa (fn:=Tryz.f180) Tryz.func180 rfl Tryz.ntmps180 (Nat.le_of_ble_eq_true rfl) ?_
  (refine ak ?_;(repeat' first|refine And.intro ?_ ?_|intro _);all_goals refine ah.mk ?_;(all_goals (try (exact ⟨rfl,R.Own.below ww⟩))))
 have e2:rW a b=W (a.n % b.n):=by unfold rW tc;rw [if_neg h0]
 have e3:eW b=0:=by unfold eW;rw [if_neg h0]
 have e1:qW a b=W (a.n / b.n):=rfl
 have hbl1:=V0 a
 have hbl2:=V0 b
 have hbl3:=Ol (by omega:0<b.n)
 have hmr:a.n % b.n<b.n:=Nat.mod_lt _ xj
 have hw0:ai (wd b.n (Int.toNat 0):Nat):=l8 _ _
 have hw:=Ok b
 by_cases h1:b.n<18446744073709551616
 ·have hwd:wd b.n (Int.toNat 0)=b.n:=by
   rw [show Int.toNat 0=0 from rfl]
   unfold wd
   rw [Nat.mul_zero,Nat.pow_zero,Nat.div_one]
   omega
  rw [e1,e3]
  unfold rW
  refine aa (fn:=Tryz.f180) Tryz.func180 rfl Tryz.ntmps180 (Nat.le_of_ble_eq_true rfl) ?_
  (refine ak ?_;(repeat' first|refine And.intro ?_ ?_|intro _);all_goals refine ah.mk ?_;(all_goals (try (exact ⟨rfl,R.Own.below ww⟩))))
  ·rw [hwd,Int.toNat_natCast]
   exact ⟨rfl,R.Own.below ww⟩
  ·rename_i hx _ _
   exact absurd (hw.2 h1) hx
 ·rw [e1,e2,e3]
  refine aa (fn:=Tryz.f180) Tryz.func180 rfl Tryz.ntmps180 (Nat.le_of_ble_eq_true rfl) ?_
  (refine ak ?_;(repeat' first|refine And.intro ?_ ?_|intro _);all_goals refine ah.mk ?_;(all_goals (try (exact ⟨rfl,R.Own.below ww⟩))))
  ·exact absurd (hw.1 ww) h1
  rename_i g1 _ _ g2 _ _ g3 _ _ g4 _ _ _ _ _ _ _ _ hx w1 hM
  refine iW [(0,false),(2,false),(1,true),(3,true),(4,false),(5,false)] R.mixed wx aj ?_
  (refine ak ?_;(repeat' first|refine And.intro ?_ ?_|intro _);all_goals refine ah.mk ?_)
  rename_i w1 hM
  refine au (fun s:Int×Nat×Nat=>[(3,.pointer (some ⟨g2,0,none⟩)),(4,.pointer (some ⟨g3,0,none⟩)),(5,.pointer (some ⟨g4,0,none⟩)),(6,.int .i64 0),(7,.int .i64 s.1)])
   (fun s w2=>s.1≤(bitLen a.n:Int)-bitLen b.n∧-513≤s.1∧rT a.n b.n (s.1+1).toNat s.2.1 s.2.2∧R.Own [] w w2 [.blk g4 109 (cW (W s.2.2)),.blk g3 109 (cW (W s.2.1)),.blk g2 109 (cW b),.blk g1 109 (cW a)]) (fun s=>(s.1+1).toNat)
   ⟨((bitLen a.n:Int)-bitLen b.n,0,a.n),⟨rfl,rfl,rfl,rfl,rfl,trivial⟩,by dsimp only;omega,by dsimp only;omega,GF a b xj,by dsimp only;rw [YV];exact hM⟩ ?_
  clear hM hw hw0 hx
  rintro ⟨by_,q,r⟩ f w2 ⟨hb1,hb2,hI,hM⟩
  dsimp only at hb1 hb2 hI hM ⊢
  have hra:r≤a.n:=by have:=hI.sum;omega
  by_cases hby:by_<0
  ·rw [show (by_+1).toNat=0 by omega] at hI
   obtain ⟨d1,d2⟩:=hI.done
   (refine ak ?_;(repeat' first|refine And.intro ?_ ?_|intro _);all_goals refine ah.mk ?_;(all_goals (try (exact ⟨rfl,R.Own.below ww⟩))))
   rw [← d1,← d2]
   exact ⟨rfl,R.Own.below ww⟩
  ·obtain ⟨m,rfl⟩:∃ m:Nat,by_=m:=⟨by_.toNat,by omega⟩
   rw [show ((m:Int)+1).toNat=m+1 by omega] at hI
   have hs:=Oj b m xj
   have hWr:=qF a r hra
   by_cases hlt:r<b.n*2 ^ m
   ·have hI2:=hI.skip hlt
    have hc:mL (W r).n (Ju b (m:Int)).n<0:=(qE _ _).2 (by rw [hWr,hs];exact hlt)
    (refine ak ?_;(repeat' first|refine And.intro ?_ ?_|intro _);all_goals refine ah.mk ?_;(all_goals (try (exact ⟨rfl,R.Own.below ww⟩))))
    rename_i hM
    exact ⟨((m:Int)-1,q,r),⟨rfl,rfl,rfl,rfl,rfl,trivial⟩,⟨by dsimp only;omega,by dsimp only;omega,by dsimp only;rw [show ((m:Int)-1+1).toNat=m by omega];exact hI2,hM.tl⟩,by dsimp only;omega⟩
   ·have hI2:=hI.take xj
    have hc:¬ mL (W r).n (Ju b (m:Int)).n<0:=fun h=>hlt (by have:=(qE _ _).1 h;rwa [hWr,hs] at this)
    have hq2:q+2 ^ m≤a.n:=by
     have h5:=hI2.sum
     have h6:(q+2 ^ m)*1≤(q+2 ^ m)*b.n:=Nat.mul_le_mul_left _ xj
     omega
    have h1m:(Ju (W 1) (m:Int)).n=2 ^ m:=by
     rw [Oj (W 1) m (by rw [Yo];have:=hbl1;omega),oP (fV vj),Nat.one_mul]
    have u1:kG (W r) (Ju b (m:Int))=W (r-b.n*2 ^ m):=Wd.lq (by
     show Cc (W r).n (Ju b (m:Int)).n=_
     rw [oh (W r).lt (by rw [hWr,hs];omega),hWr,hs,qF a _ (by omega)])
    have u2:(W q).n+(Ju (W (Int.toNat 1)) (m:Int)).n=q+2 ^ m:=by rw [show Int.toNat 1=1 from rfl,h1m,qF a q (by omega)]
    (refine ak ?_;(repeat' first|refine And.intro ?_ ?_|intro _);all_goals refine ah.mk ?_;(all_goals (try (exact ⟨rfl,R.Own.below ww⟩))))
    refine bB [(0,false),(2,false),(1,true),(3,true),(4,true),(5,false),(6,false),(7,false),(8,true)] R.mixed wx aj ?_
    (refine ak ?_;(repeat' first|refine And.intro ?_ ?_|intro _);all_goals refine ah.mk ?_;(all_goals (try (exact ⟨rfl,R.Own.below ww⟩))))
    rename_i hM
    rw [u1,u2] at hM
    exact ⟨((m:Int)-1,q+2 ^ m,r-b.n*2 ^ m),⟨rfl,rfl,rfl,rfl,rfl,trivial⟩,⟨by dsimp only;omega,by dsimp only;omega,by dsimp only;rw [show ((m:Int)-1+1).toNat=m by omega];exact hI2,hM.tl⟩,by dsimp only;omega⟩
instance K9 (a b:Wd):bj Tryz.prog 180 #[.agg (cW a).toArray,.agg (cW b).toArray] Unit (fun _ _=>True) (fun _=>.tuple #[.agg (cW (qW a b)).toArray,.agg (cW (rW a b)).toArray,.int .i64 (eW b)]):=⟨fun _ w _=>Om a b w⟩
end
section
end
end Go.Proofs.YtlmabdegojeheaaGreatDoor
