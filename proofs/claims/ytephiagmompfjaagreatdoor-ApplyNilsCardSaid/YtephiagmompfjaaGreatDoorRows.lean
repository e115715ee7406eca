/-
  NARROWER THAN 'FOR EVERY INPUT', by the rows' own cells (each row's printed sentence says how): ApplyNils: laid.
  DERIVED. THE GIVEN ROWS OF THIS SEAT. 1 by the template 'for every input the law returns true; each argument reads behind the call as it read before'; 0 by the template 'total and deterministic' (their statements: YtephiagmompfjaaGreatDoorTotals.lean).
  GIVEN WITH THE SEED: the statements are not yours to turn. If you find one false, say at which input.
  Laid BY PROGRAM, IN A SANDBOX (cutbox-rows.mjs): the forced cells as the released guide's own fill.sh prints them over the translation ecb53369ca7ac20f… (all of the seat's roots in one cut). By AI agents, Wed Nov 11 2026. No macro, syntax, notation, axiom, sorry.
-/
import Derived.Test.YtephiagmompfjaaGreatDoorChecked
import GoSem.Claim
import GoSem.ClaimJoined
import GoSem.ClaimMapViews
import Derived.JoinedTies
import Derived.KernelRfl
namespace Go.Proofs.YtephiagmompfjaaGreatDoor
/- THE CELL 'sum', in the pinned program and in every row, IS THE sha256 OF THE DUMP (.gsa) THAT YtephiagmompfjaaGreatDoorProg.lean LOADS. Nothing in Lean hashes anything: it is a label: what it is worth is what the hold of that sum in a sandbox is worth. -/
noncomputable def Tryz.pinned : Pinned := { name := "ytephiagmompfjaagreatdoor", sum := "ecb53369ca7ac20fbd535eb0e0eade0f65e1a0c162d16f23d110a4b6b6eeaedd", checked := Tryz.checked }
namespace Rows
def none {H : Type} : Left H := { results := [], args := [] }

/- WHAT THE LISTED PACKAGE-LEVEL VARIABLES READ AS WHEN THE CALL BEGINS. Each datum BY PROGRAM (the guide's laid-datum.mjs) off the statement by which the dump's own 'gosem.cut.vars' lays the variable. In a bare row this is a premise. The card (YtephiagmompfjaaGreatDoorCards.lean) ties it to the program's text. -/
def laid_mimesis_bus_ports {H : Type} : DataW H := .agg [.agg [.lit (.int .u32 1048576), .lit (.int .u32 4)], .agg [.lit (.int .u32 268435456), .lit (.int .u32 8)], .agg [.lit (.int .u32 33554432), .lit (.int .u32 4)], .agg [.lit (.int .u32 33570816), .lit (.int .u32 8)], .agg [.lit (.int .u32 33603576), .lit (.int .u32 8)]]

/-- 'mimesislaw25.ApplyNils': WHATEVER THE INPUT: true; the input reads as it did. -/
def applyNilsSpec : ChangeSpec := { name := "applyNils", fn := fun _ => fun
  | [d1, d2, d3] => { results := [.lit (.bool true)], args := [d1, d2, d3] }
  | _ => none }
def applyNilsRow : OpenClaim := { program := "ytephiagmompfjaagreatdoor", sum := "ecb53369ca7ac20fbd535eb0e0eade0f65e1a0c162d16f23d110a4b6b6eeaedd", func := "mimesis/mimesislaw25.ApplyNils", spec := "applyNils", unfollowed := true, recurses := true, named := ["mimesis/bus.ports"], apart := false, laid := [("mimesis/bus.ports", laid_mimesis_bus_ports)] }
def ApplyNilsSaid : Prop := applyNilsRow.holds Tryz.pinned (OpenSpec.ofChange applyNilsSpec)

/-- ITS FALSE NEIGHBOUR: 'it returns false'. Refute it at one input. -/
def applyNilsWrong : ChangeSpec := { name := "applyNils", fn := fun _ => fun
  | [d1, d2, d3] => { results := [.lit (.bool false)], args := [d1, d2, d3] }
  | _ => none }
def ApplyNilsWrongFalsely : Prop := applyNilsRow.holds Tryz.pinned (OpenSpec.ofChange applyNilsWrong)

/- THE SECOND FORM. 'bulk': how many values and letters a reading holds, each counted each time it is reached (what is shared counts as often as it is met; a slice's spare places count too). A statement '..UptoSaid' is the law's where the arguments, and the package variables that the reading takes, are together of bulk at most 1048576: NARROWER than '..Said'. Prove '..Said' where nothing that the law and all that it calls make is longer than what came in: it says more and counts as full. Else prove '..UptoSaid'. A law counts once. -/
mutual
def uptoBulk {H : Type} : DataW H → Nat
  | .lit (.string bytes) => bytes.length + 1
  | .lit _ => 1
  | .nil => 1
  | .ptr d => uptoBulk d + 1
  | .slice elems spare => uptoBulkAll elems + uptoBulkAll spare + 1
  | .agg parts => uptoBulkAll parts + 1
  | .iface _ d => uptoBulk d + 1
  | .map entries => uptoBulkEntries entries + 1
  | .held _ => 1
def uptoBulkAll {H : Type} : List (DataW H) → Nat
  | [] => 0
  | d :: r => uptoBulk d + uptoBulkAll r
def uptoBulkEntries {H : Type} : List (Lit × DataW H) → Nat
  | [] => 0
  | x :: r => uptoBulkEntry x + uptoBulkEntries r
def uptoBulkEntry {H : Type} : Lit × DataW H → Nat
  | (.string bytes, d) => bytes.length + uptoBulk d + 1
  | (_, d) => uptoBulk d + 1
 end
def uptoSmall : (H : Type) → List (DataW H) → Bool := fun _ ds => decide (uptoBulkAll ds ≤ 1048576)
def OpenSpec.upto (s : _root_.Go.ChangeSpec) : _root_.Go.OpenSpec := { _root_.Go.OpenSpec.ofChange s with cond := some uptoSmall }

/-- 'mimesislaw25.ApplyNils', WHERE WHAT IT READS IS OF BULK AT MOST 1048576: true; the input reads as it did. -/
def applyNilsUptoRow : OpenClaim := { program := "ytephiagmompfjaagreatdoor", sum := "ecb53369ca7ac20fbd535eb0e0eade0f65e1a0c162d16f23d110a4b6b6eeaedd", func := "mimesis/mimesislaw25.ApplyNils", spec := "applyNils", unfollowed := true, recurses := true, named := ["mimesis/bus.ports"], apart := false, laid := [("mimesis/bus.ports", laid_mimesis_bus_ports)], narrowed := true }
def ApplyNilsUptoSaid : Prop := applyNilsUptoRow.holds Tryz.pinned (OpenSpec.upto applyNilsSpec)

end Rows
end Go.Proofs.YtephiagmompfjaaGreatDoor
