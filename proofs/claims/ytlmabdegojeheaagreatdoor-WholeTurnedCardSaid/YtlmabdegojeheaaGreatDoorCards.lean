/-
  DERIVED. GIVEN WITH THE SEED: THE CARDS: each row of YtlmabdegojeheaaGreatDoorRows.lean that lists a variable, with what it lists TIED to the program's text (the seventh form; the later family's looks); each row that meets fmt, with fmt's text TOLD by the authors' own Lean function (tested against real Go, not proved from fmt's source: count such statements apart). THE CARD IS WHAT COUNTS. Prove the row's statement (the work); the ties are given (YtlmabdegojeheaaGreatDoorTie.lean); close each card by the builder's one call (the guide's Derived/Test/ToyasCard.lean, 'card_holds'). Laid BY PROGRAM, IN A SANDBOX (cutbox-door.mjs). By AI agents, Wed Nov 11 2026. No macro, syntax, notation, axiom, sorry.
-/
import Derived.Test.YtlmabdegojeheaaGreatDoorRows
import GoSem.ClaimSeven
namespace Go.Proofs.YtlmabdegojeheaaGreatDoor
namespace Rows

/-- THE TIED CARD OF 'snickettop.WholeTurned'. -/
def wholeTurnedCard : Claim7 := { stood := { row := wholeTurnedRow, standIns := [], harness := (true, "c54fe0e0cfb1af532db8ae543884682b2fc46276787cc2c1b74d8f26cd918fbd"), looks := false }, kinds := [], alts := [], laidByText := true, laidKinds := [.data, .data, .data, .data, .pinned], laidTests := true, laidLooks := .later }
def WholeTurnedCardSaid : Prop := Claim7.holds Tryz.pinned (.plain (OpenSpec.ofChange wholeTurnedSpec)) wholeTurnedCard

/-- THE SECOND FORM's CARD OF 'snickettop.WholeTurned'. -/
def wholeTurnedUptoCard : Claim7 := { stood := { row := wholeTurnedUptoRow, standIns := [], harness := (true, "c54fe0e0cfb1af532db8ae543884682b2fc46276787cc2c1b74d8f26cd918fbd"), looks := false }, kinds := [], alts := [], laidByText := true, laidKinds := [.data, .data, .data, .data, .pinned], laidTests := true, laidLooks := .later }
def WholeTurnedUptoCardSaid : Prop := Claim7.holds Tryz.pinned (.plain (OpenSpec.upto wholeTurnedSpec)) wholeTurnedUptoCard
end Rows
end Go.Proofs.YtlmabdegojeheaaGreatDoor
