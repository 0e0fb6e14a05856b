/- The card of WholeTurned: for every list of roads and every number of quarters the law returns true and leaves its arguments as they were; conditions: none but the card's own (the package variables that its row lists start as the program lays them). -/
import Derived.Test.YtlmabdegojeheaaGreatDoorFrame
import Derived.Test.YtlmabdegojeheaaGreatDoorRqUy
import Derived.Test.YtlmabdegojeheaaGreatDoorWt
import Derived.Test.YtlmabdegojeheaaGreatDoorWg
import Derived.Lay
import Derived.LaidMore
import Derived.ProofKit
namespace Go.Proofs.YtlmabdegojeheaaGreatDoor
open R
section
open Go.ChangeShapes Go.WideShapes Go.ChangeAt Go.RowKit
set_option maxRecDepth 100000 in
theorem pt (os:Os) (started:os.Started) (H:Type) (enc:TypeId×Value→H) :
  ReturnsInHanded {} Tryz.checked os 3 .any (fun w args=>(Rows.wholeTurnedSpec.pre enc Tryz.prog Tryz.f3 Rows.wholeTurnedRow.domain false w args∧laidMetH Tryz.prog Rows.wholeTurnedRow.laid w)∧sizedMet enc Tryz.prog Tryz.f3 (OpenSpec.ofChange Rows.wholeTurnedSpec) false w args)
   (Rows.wholeTurnedSpec.post enc Tryz.prog Tryz.f3 false true false false):=by
 refine returnsInHanded_of_change_and (C:=Tryz.checked) (X:=fun w _=>laidMetH Tryz.prog Rows.wholeTurnedRow.laid w) (fun _ _ _ hh h=>h.of_heap hh) Ab started (by kernel_rfl) Tryz.func3
  (ChangeSpec.witness_shaped (enc:=enc) (C:=Tryz.checked) (os:=os) (X:=fun w _=>laidMetH Tryz.prog Rows.wholeTurnedRow.laid w) false (World.laidAll Tryz.prog os Rows.wholeTurnedRow.laid) #[.slice none 0 0,.int .u8 0] 8 (World.laidAll_os _ _ _)
   (World.shaped_of_ZipB (by kernel_rfl) (by kernel_rfl)) (by kernel_rfl) (by kernel_rfl) (by kernel_rfl)
   (by rw [MakeChecks.laidMetH_plain _ _ _ (by kernel_rfl)];exact laidMet_laidAll _ (by kernel_rfl) (by kernel_rfl))) ?_
 intro W base args ds gs before hval0 hW _ _ _ _
 have hval:∀ (j:Nat) t v,Tryz.f3.params[j]?=some t→args[j]?=some v→Value.okWide Tryz.prog W .any base t v:=hval0
 have hW':=hW
 obtain ⟨p,q,hA0,hV,rfl,hfz,hnd⟩:=hW
 have hA:DataW.TrodAll enc Tryz.prog W 0 (fun _=>true) true Tryz.f3.params.toList args.toList ds p:=hA0
 obtain ⟨rfl,rfl⟩:=trodVars_none hV
 have hA1:=hA
 rw [Tryz.params3] at hA1 hval
 simp only [List.append_nil] at hW'
 refine (l6 W base args ds p hA1 hval).mono fun e W' ⟨he,hb⟩=>?_
 subst he
 refine ⟨_,rfl,ND rfl laidOut hW' hA (by kernel_rfl) rfl (by kernel_rfl) ?_ hb⟩
 clear hb hW' hA hfz hnd hV hval hval0 hA0
 obtain ⟨v0,vs0,d0,ds0,p0,q0,e0,rfl,g0,h0,r0⟩:=trodAll_cons hA1
 obtain ⟨v1,vs1,d1,ds1,p1,q1,e1,rfl,g1,h1,r1⟩:=trodAll_cons r0
 obtain ⟨_,rfl,_⟩:=trodAll_nil r1
 rfl
theorem mY:Rows.WholeTurnedSaid :=
 OpenClaim.holds_of_wide 3 Tryz.f3 rfl rfl rfl rfl rfl rfl rfl ⟨rfl,rfl,rfl,rfl,rfl⟩ rfl rfl rfl rfl rfl (by kernel_rfl) Tryz.func3 Qa
  (of_decide_eq_true (by kernel_rfl)) (by unfold Func.isWrapper;first|(rw [if_pos (by decide +kernel)];kernel_rfl)|(rw [if_neg (by decide +kernel)];exact ⟨rfl,rfl⟩))
  (fun os started H enc _=>pt os started H enc)
set_option maxRecDepth 100000 in
theorem wholeTurned_holds:Rows.WholeTurnedCardSaid :=
 Claim7.holds_tied_plain_at .later [] [.data,.data,.data,.data,.pinned] true (true,"c54fe0e0cfb1af532db8ae543884682b2fc46276787cc2c1b74d8f26cd918fbd") false mY (fun _ h=>by cases h) aes (fun _ h=>by cases h) wholeTurned_row_tie rfl ⟨rfl,rfl⟩ aet rfl
  (fun f fn hf hfn=>by
   obtain rfl:f=3:=Option.some.inj (aeu.symm.trans hf) |>.symm
   obtain rfl:fn=Tryz.f3:=(Option.some.inj (Tryz.func3.symm.trans hfn)).symm
   exact ⟨aev,fun j t ht=>by
    rw [Tryz.params3] at ht
    have hm:t∈[22,5]:=by simpa using Array.mem_of_getElem? ht
    exact (show Tryz.prog.wantsStandIn t=false by simpa using List.all_eq_true.1 aew t hm)⟩)
  U3
#print axioms wholeTurned_holds
end
end Go.Proofs.YtlmabdegojeheaaGreatDoor
