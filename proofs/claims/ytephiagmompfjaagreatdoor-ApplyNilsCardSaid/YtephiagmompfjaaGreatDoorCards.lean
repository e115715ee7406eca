/-
  DERIVED. GIVEN WITH THE SEED: THE CARDS: each row of YtephiagmompfjaaGreatDoorRows.lean that lists a variable, with what it lists TIED to the program's text (the seventh form; the later family's looks); each row that meets fmt, with fmt's text TOLD by the authors' own Lean function (tested against real Go, not proved from fmt's source: count such statements apart). THE CARD IS WHAT COUNTS. Prove the row's statement (the work); the ties are given (YtephiagmompfjaaGreatDoorTie.lean); close each card by the builder's one call (the guide's Derived/Test/ToyasCard.lean, 'card_holds'). Laid BY PROGRAM, IN A SANDBOX (cutbox-door.mjs). By AI agents, Wed Nov 11 2026. No macro, syntax, notation, axiom, sorry.
-/
import Derived.Test.YtephiagmompfjaaGreatDoorRows
import GoSem.ClaimSeven
namespace Go.Proofs.YtephiagmompfjaaGreatDoor
namespace Rows

/-- THE TIED CARD OF 'mimesislaw25.ApplyNils'. -/
def applyNilsCard : Claim7 := { stood := { row := applyNilsRow, standIns := [], harness := (true, "1469bea956c58ef6ad841c34ffaa025be4b8147da276cb392112e628a2e34261"), looks := false }, kinds := [], alts := [], laidByText := true, laidKinds := [.data], laidTests := true, laidLooks := .later }
def ApplyNilsCardSaid : Prop := Claim7.holds Tryz.pinned (.plain (OpenSpec.ofChange applyNilsSpec)) applyNilsCard

/-- THE SECOND FORM's CARD OF 'mimesislaw25.ApplyNils'. -/
def applyNilsUptoCard : Claim7 := { stood := { row := applyNilsUptoRow, standIns := [], harness := (true, "1469bea956c58ef6ad841c34ffaa025be4b8147da276cb392112e628a2e34261"), looks := false }, kinds := [], alts := [], laidByText := true, laidKinds := [.data], laidTests := true, laidLooks := .later }
def ApplyNilsUptoCardSaid : Prop := Claim7.holds Tryz.pinned (.plain (OpenSpec.upto applyNilsSpec)) applyNilsUptoCard
end Rows
end Go.Proofs.YtephiagmompfjaaGreatDoor
