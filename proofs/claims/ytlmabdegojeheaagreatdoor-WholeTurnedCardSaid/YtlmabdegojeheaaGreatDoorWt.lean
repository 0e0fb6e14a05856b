/- WholeTurned: parts of its proof (Wt). -/
import Derived.Test.YtlmabdegojeheaaGreatDoorLo
import Derived.Test.YtlmabdegojeheaaGreatDoorCards
import Derived.Test.YtlmabdegojeheaaGreatDoorTie
import Derived.JoinedOf
import Derived.SevenTiedAt
namespace Go.Proofs.YtlmabdegojeheaaGreatDoor
section
open Go
set_option maxRecDepth 100000
theorem aeA:(Rows.wholeTurnedRow.wf (OpenSpec.ofChange Rows.wholeTurnedSpec))=true:=by kernel_rfl
theorem aeB:(laidOutB Tryz.prog)=true:=laidOut
theorem aeC:(mapsRowed Tryz.prog)=true:=by kernel_rfl
theorem aeD:(Tryz.f3.params.all (Tryz.prog.readableRec ·))=true:=by kernel_rfl
theorem aeE:(namedTie Tryz.prog Rows.wholeTurnedRow.named Rows.wholeTurnedSpec.vars)=true:=by kernel_rfl
theorem aeF:((Rows.wholeTurnedRow.stops == []))=true:=by kernel_rfl
theorem aeG:((Tryz.prog.stops == []))=true:=by kernel_rfl
theorem aeH:((Rows.wholeTurnedRow.knobs == []))=true:=by kernel_rfl
theorem aeI:((Tryz.prog.stopKnobs == []))=true:=by kernel_rfl
theorem aeJ:((Rows.wholeTurnedRow.inPlace == Tryz.prog.inPlace 3))=true:=by
 unfold Program.inPlace
 rw [Tk]
 kernel_rfl
theorem abm:((Rows.wholeTurnedRow.unfollowed == Tryz.prog.unfollowed 3))=true:=by
 unfold Program.unfollowed
 rw [Tk]
 kernel_rfl
theorem abn:((Rows.wholeTurnedRow.recurses == Tryz.prog.recurses 3))=true:=by
 unfold Program.recurses Program.unfollowed
 rw [Tk]
 kernel_rfl
theorem abo:((Rows.wholeTurnedRow.named == Tryz.prog.varsNamed 3))=true:=by
 unfold Program.varsNamed
 rw [Tk]
 kernel_rfl
theorem abp:((Rows.wholeTurnedRow.maps == (Tryz.f3.params.toList++Rows.wholeTurnedSpec.plain.varTypes Tryz.prog).any (Tryz.prog.mapsRec ·)))=true:=by kernel_rfl
theorem abq:((Rows.wholeTurnedRow.ifaces == (Tryz.f3.params.toList++Rows.wholeTurnedSpec.plain.varTypes Tryz.prog).any (Tryz.prog.ifacesRec ·)))=true:=by kernel_rfl
theorem abr:((Rows.wholeTurnedRow.mapsOut == Tryz.prog.mapsAmong Tryz.f3.resultTypes.toList))=true:=by kernel_rfl
theorem abt:((Rows.wholeTurnedRow.loops == (Tryz.f3.params.toList++Rows.wholeTurnedSpec.plain.varTypes Tryz.prog).any (Tryz.prog.loopsFrom ·)))=true:=by kernel_rfl
theorem abu:((Rows.wholeTurnedRow.wideKeys == (Tryz.f3.params.toList++Rows.wholeTurnedSpec.plain.varTypes Tryz.prog++Tryz.f3.resultTypes.toList).any (Tryz.prog.wideKeysFrom ·)))=true:=by kernel_rfl
theorem abv:(Rows.wholeTurnedSpec.vars.all (Tryz.prog.varReadable ·))=true:=by kernel_rfl
theorem abw:(Tryz.f3.resultTypes.all (fun t=>Tryz.prog.readableRec t&&decide (t<Tryz.prog.types.size)))=true:=by kernel_rfl
theorem abx:((Rows.wholeTurnedRow.ifacesOut == Tryz.f3.resultTypes.toList.any (Tryz.prog.ifacesRec ·)))=true:=by kernel_rfl
theorem aby:((Rows.wholeTurnedRow.loopsOut == Tryz.f3.resultTypes.toList.any (Tryz.prog.loopsFrom ·)))=true:=by kernel_rfl
theorem abz:((Rows.wholeTurnedRow.plainKeys == Tryz.prog.plainKeys))=true:=by kernel_rfl
theorem abA:(Rows.wholeTurnedRow.shortTexts.isNone)=true:=by kernel_rfl
theorem abB:(Tryz.prog.stopsHeard)=true:=by kernel_rfl
theorem abC:(Tryz.prog.mayEnter)=true:=by kernel_rfl
theorem abD:((Rows.wholeTurnedRow.lifted == Tryz.prog.liftsFinal))=true:=by kernel_rfl
theorem abE:((Tryz.prog.make == some Rows.wholeTurnedRow.make))=true:=by kernel_rfl
theorem abF:((Rows.wholeTurnedRow.kinds == (if Rows.wholeTurnedRow.domain.isEmpty then [] else Tryz.f3.params.toList.map fun t=>match Tryz.prog.underlying t with|some (.int k)=>some k|_=>none)))=true:=by kernel_rfl
theorem abG:((Rows.wholeTurnedRow.pinned == Rows.wholeTurnedRow.pinnedBy))=true:=by kernel_rfl
theorem abH:((Rows.wholeTurnedRow.veiled == (Tryz.f3.params.toList++Rows.wholeTurnedSpec.plain.varTypes Tryz.prog++Tryz.f3.resultTypes.toList).any (Tryz.prog.veiledRec ·)))=true:=by kernel_rfl
theorem abI:(Rows.wholeTurnedRow.veiledFits Tryz.prog Tryz.f3.params.toList (Tryz.f3.params.toList++Rows.wholeTurnedSpec.plain.varTypes Tryz.prog++Tryz.f3.resultTypes.toList))=true:=by kernel_rfl
theorem Qa:joinedFacts Tryz.prog 3 Tryz.f3 Rows.wholeTurnedSpec Rows.wholeTurnedRow=true:=by
 unfold joinedFacts
 simp only [Bool.and_eq_true]
 exact ⟨⟨⟨⟨⟨⟨⟨⟨⟨⟨⟨⟨⟨⟨⟨⟨⟨⟨⟨⟨⟨⟨⟨⟨⟨⟨⟨⟨⟨⟨⟨aeA,aeB⟩,aeC⟩,aeD⟩,aeE⟩,aeF⟩,aeG⟩,aeH⟩,aeI⟩,aeJ⟩,abm⟩,abn⟩,abo⟩,abp⟩,abq⟩,abr⟩,abt⟩,abu⟩,abv⟩,abw⟩,abx⟩,aby⟩,abz⟩,abA⟩,abB⟩,abC⟩,abD⟩,abE⟩,abF⟩,abG⟩,abH⟩,abI⟩
end
end Go.Proofs.YtlmabdegojeheaaGreatDoor
