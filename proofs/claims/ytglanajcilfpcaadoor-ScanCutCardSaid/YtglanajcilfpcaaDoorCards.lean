/-
  DERIVED. GIVEN WITH THE SEED: THE CARDS: each row of YtglanajcilfpcaaDoorRows.lean that lists a variable, with what it lists TIED to the program's text (the seventh form; the later family's looks); each row that meets fmt, with fmt's text TOLD by the authors' own Lean function (tested against real Go, not proved from fmt's source: count such statements apart). THE CARD IS WHAT COUNTS. Prove the row's statement (the work); the ties are given (YtglanajcilfpcaaDoorTie.lean); close each card by the builder's one call (the guide's Derived/Test/ToyasCard.lean, 'card_holds'). Laid BY PROGRAM, IN A SANDBOX (cutbox-door.mjs). By AI agents, Wed Nov 11 2026. No macro, syntax, notation, axiom, sorry.
-/
import Derived.Test.YtglanajcilfpcaaDoorRows
import GoSem.ClaimSeven
namespace Go.Proofs.YtglanajcilfpcaaDoor
namespace Rows

/-- THE TIED CARD OF 'mimesislaw26.ScanRows'. -/
def scanRowsCard : Claim7 := { stood := { row := scanRowsRow, standIns := [], harness := (true, "c3e2bd221f134a3decc183b2df6d5307db580590427ee2b6c80cb98a78edb8a8"), looks := false }, kinds := [], alts := [], laidByText := true, laidKinds := [.data], laidTests := true, laidLooks := .later }
def ScanRowsCardSaid : Prop := Claim7.holds Tryd.pinned (.plain (OpenSpec.ofChange scanRowsSpec)) scanRowsCard

/-- THE TIED CARD OF 'mimesislaw26.ScanPaths'. -/
def scanPathsCard : Claim7 := { stood := { row := scanPathsRow, standIns := [], harness := (true, "c3e2bd221f134a3decc183b2df6d5307db580590427ee2b6c80cb98a78edb8a8"), looks := false }, kinds := [], alts := [], laidByText := true, laidKinds := [.data], laidTests := true, laidLooks := .later }
def ScanPathsCardSaid : Prop := Claim7.holds Tryd.pinned (.plain (OpenSpec.ofChange scanPathsSpec)) scanPathsCard

/-- THE TIED CARD OF 'mimesislaw26.ScanCut'. -/
def scanCutCard : Claim7 := { stood := { row := scanCutRow, standIns := [], harness := (true, "c3e2bd221f134a3decc183b2df6d5307db580590427ee2b6c80cb98a78edb8a8"), looks := false }, kinds := [], alts := [], laidByText := true, laidKinds := [.data], laidTests := true, laidLooks := .later }
def ScanCutCardSaid : Prop := Claim7.holds Tryd.pinned (.plain (OpenSpec.ofChange scanCutSpec)) scanCutCard

/-- THE TIED CARD OF 'mimesislaw27.LowerMaps'. -/
def lowerMapsCard : Claim7 := { stood := { row := lowerMapsRow, standIns := [], harness := (true, "c3e2bd221f134a3decc183b2df6d5307db580590427ee2b6c80cb98a78edb8a8"), looks := false }, kinds := [], alts := [], laidByText := true, laidKinds := [.data], laidTests := true, laidLooks := .later }
def LowerMapsCardSaid : Prop := Claim7.holds Tryd.pinned (.plain (OpenSpec.ofChange lowerMapsSpec)) lowerMapsCard

/-- THE TIED CARD OF 'mimesislaw26.ScanGoes'. -/
def scanGoesCard : Claim7 := { stood := { row := scanGoesRow, standIns := [], harness := (true, "c3e2bd221f134a3decc183b2df6d5307db580590427ee2b6c80cb98a78edb8a8"), looks := false }, kinds := [], alts := [], laidByText := true, laidKinds := [.data], laidTests := true, laidLooks := .later }
def ScanGoesCardSaid : Prop := Claim7.holds Tryd.pinned (.plain (OpenSpec.ofChange scanGoesSpec)) scanGoesCard

/-- THE SECOND FORM's CARD OF 'mimesislaw26.ScanRows'. -/
def scanRowsUptoCard : Claim7 := { stood := { row := scanRowsUptoRow, standIns := [], harness := (true, "c3e2bd221f134a3decc183b2df6d5307db580590427ee2b6c80cb98a78edb8a8"), looks := false }, kinds := [], alts := [], laidByText := true, laidKinds := [.data], laidTests := true, laidLooks := .later }
def ScanRowsUptoCardSaid : Prop := Claim7.holds Tryd.pinned (.plain (OpenSpec.upto scanRowsSpec)) scanRowsUptoCard

/-- THE SECOND FORM's CARD OF 'mimesislaw26.ScanPaths'. -/
def scanPathsUptoCard : Claim7 := { stood := { row := scanPathsUptoRow, standIns := [], harness := (true, "c3e2bd221f134a3decc183b2df6d5307db580590427ee2b6c80cb98a78edb8a8"), looks := false }, kinds := [], alts := [], laidByText := true, laidKinds := [.data], laidTests := true, laidLooks := .later }
def ScanPathsUptoCardSaid : Prop := Claim7.holds Tryd.pinned (.plain (OpenSpec.upto scanPathsSpec)) scanPathsUptoCard

/-- THE SECOND FORM's CARD OF 'mimesislaw26.ScanCut'. -/
def scanCutUptoCard : Claim7 := { stood := { row := scanCutUptoRow, standIns := [], harness := (true, "c3e2bd221f134a3decc183b2df6d5307db580590427ee2b6c80cb98a78edb8a8"), looks := false }, kinds := [], alts := [], laidByText := true, laidKinds := [.data], laidTests := true, laidLooks := .later }
def ScanCutUptoCardSaid : Prop := Claim7.holds Tryd.pinned (.plain (OpenSpec.upto scanCutSpec)) scanCutUptoCard

/-- THE SECOND FORM's CARD OF 'mimesislaw27.LowerMaps'. -/
def lowerMapsUptoCard : Claim7 := { stood := { row := lowerMapsUptoRow, standIns := [], harness := (true, "c3e2bd221f134a3decc183b2df6d5307db580590427ee2b6c80cb98a78edb8a8"), looks := false }, kinds := [], alts := [], laidByText := true, laidKinds := [.data], laidTests := true, laidLooks := .later }
def LowerMapsUptoCardSaid : Prop := Claim7.holds Tryd.pinned (.plain (OpenSpec.upto lowerMapsSpec)) lowerMapsUptoCard

/-- THE SECOND FORM's CARD OF 'mimesislaw26.ScanGoes'. -/
def scanGoesUptoCard : Claim7 := { stood := { row := scanGoesUptoRow, standIns := [], harness := (true, "c3e2bd221f134a3decc183b2df6d5307db580590427ee2b6c80cb98a78edb8a8"), looks := false }, kinds := [], alts := [], laidByText := true, laidKinds := [.data], laidTests := true, laidLooks := .later }
def ScanGoesUptoCardSaid : Prop := Claim7.holds Tryd.pinned (.plain (OpenSpec.upto scanGoesSpec)) scanGoesUptoCard
end Rows
end Go.Proofs.YtglanajcilfpcaaDoor
