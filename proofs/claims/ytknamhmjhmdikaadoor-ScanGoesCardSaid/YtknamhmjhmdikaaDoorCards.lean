/-
  DERIVED. GIVEN WITH THE SEED: THE CARDS: each row of YtknamhmjhmdikaaDoorRows.lean that lists a variable, with what it lists TIED to the program's text (the seventh form; the later family's looks); each row that meets fmt, with fmt's text TOLD by the authors' own Lean function (tested against real Go, not proved from fmt's source: count such statements apart). THE CARD IS WHAT COUNTS. Prove the row's statement (the work); the ties are given (YtknamhmjhmdikaaDoorTie.lean); close each card by the builder's one call (the guide's Derived/Test/ToyasCard.lean, 'card_holds'). Laid BY PROGRAM, IN A SANDBOX (cutbox-door.mjs). By AI agents, Wed Nov 11 2026. No macro, syntax, notation, axiom, sorry.
-/
import Derived.Test.YtknamhmjhmdikaaDoorRows
import GoSem.ClaimSeven
namespace Go.Proofs.YtknamhmjhmdikaaDoor
namespace Rows

/-- THE TIED CARD OF 'mimesislaw27.LowerMaps'. -/
def lowerMapsCard : Claim7 := { stood := { row := lowerMapsRow, standIns := [], harness := (true, "c31d63e967535d6c10c7f310e4aa7e91bb1e362a8210a5f7a672504960466f80"), looks := false }, kinds := [], alts := [], laidByText := true, laidKinds := [.data], laidTests := true, laidLooks := .later }
def LowerMapsCardSaid : Prop := Claim7.holds Tryd.pinned (.plain (OpenSpec.ofChange lowerMapsSpec)) lowerMapsCard

/-- THE TIED CARD OF 'mimesislaw26.ScanGoes'. -/
def scanGoesCard : Claim7 := { stood := { row := scanGoesRow, standIns := [], harness := (true, "c31d63e967535d6c10c7f310e4aa7e91bb1e362a8210a5f7a672504960466f80"), looks := false }, kinds := [], alts := [], laidByText := true, laidKinds := [.data], laidTests := true, laidLooks := .later }
def ScanGoesCardSaid : Prop := Claim7.holds Tryd.pinned (.plain (OpenSpec.ofChange scanGoesSpec)) scanGoesCard

/-- THE SECOND FORM's CARD OF 'mimesislaw27.LowerMaps'. -/
def lowerMapsUptoCard : Claim7 := { stood := { row := lowerMapsUptoRow, standIns := [], harness := (true, "c31d63e967535d6c10c7f310e4aa7e91bb1e362a8210a5f7a672504960466f80"), looks := false }, kinds := [], alts := [], laidByText := true, laidKinds := [.data], laidTests := true, laidLooks := .later }
def LowerMapsUptoCardSaid : Prop := Claim7.holds Tryd.pinned (.plain (OpenSpec.upto lowerMapsSpec)) lowerMapsUptoCard

/-- THE SECOND FORM's CARD OF 'mimesislaw26.ScanGoes'. -/
def scanGoesUptoCard : Claim7 := { stood := { row := scanGoesUptoRow, standIns := [], harness := (true, "c31d63e967535d6c10c7f310e4aa7e91bb1e362a8210a5f7a672504960466f80"), looks := false }, kinds := [], alts := [], laidByText := true, laidKinds := [.data], laidTests := true, laidLooks := .later }
def ScanGoesUptoCardSaid : Prop := Claim7.holds Tryd.pinned (.plain (OpenSpec.upto scanGoesSpec)) scanGoesUptoCard
end Rows
end Go.Proofs.YtknamhmjhmdikaaDoor
