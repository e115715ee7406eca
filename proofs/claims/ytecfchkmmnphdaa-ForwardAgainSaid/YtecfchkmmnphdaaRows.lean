/-
  No cell of these rows narrows 'for every input' (looked for: loops, veiled, ifaces, maps, wideKeys, modest, calm, conditions, laid).
  DERIVED. THE GIVEN ROWS OF THIS SEAT. 9 by the template 'for every input the law returns true; each argument reads behind the call as it read before'; 0 by the template 'total and deterministic' (their statements: YtecfchkmmnphdaaTotals.lean).
  GIVEN WITH THE SEED: the statements are not yours to turn. If you find one false, say at which input.
  Laid BY PROGRAM, IN A SANDBOX (cutbox-rows.mjs): the forced cells as the released guide's own fill.sh prints them over the translation b218da39c4767e33… (all of the seat's roots in one cut). By AI agents, Wed Nov 11 2026. No macro, syntax, notation, axiom, sorry.
-/
import Derived.Test.YtecfchkmmnphdaaChecked
import GoSem.Claim
import GoSem.ClaimJoined
import GoSem.ClaimMapViews
import Derived.JoinedTies
import Derived.KernelRfl
namespace Go.Proofs.Ytecfchkmmnphdaa
/- THE CELL 'sum', in the pinned program and in every row, IS THE sha256 OF THE DUMP (.gsa) THAT YtecfchkmmnphdaaProg.lean LOADS. Nothing in Lean hashes anything: it is a label: what it is worth is what the hold of that sum in a sandbox is worth. -/
noncomputable def Try.pinned : Pinned := { name := "ytecfchkmmnphdaa", sum := "b218da39c4767e331772c522690e288b967beac4d5a4121949123660435e71c3", checked := Try.checked }
namespace Rows
def none {H : Type} : Left H := { results := [], args := [] }

/-- 'mimesislaw40.CompareStates': WHATEVER THE INPUT: true; the input reads as it did. -/
def compareStatesSpec : ChangeSpec := { name := "compareStates", fn := fun _ => fun
  | [d1, d2] => { results := [.lit (.bool true)], args := [d1, d2] }
  | _ => none }
def compareStatesRow : OpenClaim := { program := "ytecfchkmmnphdaa", sum := "b218da39c4767e331772c522690e288b967beac4d5a4121949123660435e71c3", func := "mimesis/mimesislaw40.CompareStates", spec := "compareStates", unfollowed := true, recurses := true, apart := false }
def CompareStatesSaid : Prop := compareStatesRow.holds Try.pinned (OpenSpec.ofChange compareStatesSpec)

/-- ITS FALSE NEIGHBOUR: 'it returns false'. Refute it at one input. -/
def compareStatesWrong : ChangeSpec := { name := "compareStates", fn := fun _ => fun
  | [d1, d2] => { results := [.lit (.bool false)], args := [d1, d2] }
  | _ => none }
def CompareStatesWrongFalsely : Prop := compareStatesRow.holds Try.pinned (OpenSpec.ofChange compareStatesWrong)

/-- 'mimesislaw40.CompareEvents': WHATEVER THE INPUT: true; the input reads as it did. -/
def compareEventsSpec : ChangeSpec := { name := "compareEvents", fn := fun _ => fun
  | [d1, d2] => { results := [.lit (.bool true)], args := [d1, d2] }
  | _ => none }
def compareEventsRow : OpenClaim := { program := "ytecfchkmmnphdaa", sum := "b218da39c4767e331772c522690e288b967beac4d5a4121949123660435e71c3", func := "mimesis/mimesislaw40.CompareEvents", spec := "compareEvents", unfollowed := true, recurses := true, apart := false }
def CompareEventsSaid : Prop := compareEventsRow.holds Try.pinned (OpenSpec.ofChange compareEventsSpec)

/-- ITS FALSE NEIGHBOUR: 'it returns false'. Refute it at one input. -/
def compareEventsWrong : ChangeSpec := { name := "compareEvents", fn := fun _ => fun
  | [d1, d2] => { results := [.lit (.bool false)], args := [d1, d2] }
  | _ => none }
def CompareEventsWrongFalsely : Prop := compareEventsRow.holds Try.pinned (OpenSpec.ofChange compareEventsWrong)

/-- 'mimesislaw40.CompareTexts': WHATEVER THE INPUT: true; the input reads as it did. -/
def compareTextsSpec : ChangeSpec := { name := "compareTexts", fn := fun _ => fun
  | [d] => { results := [.lit (.bool true)], args := [d] }
  | _ => none }
def compareTextsRow : OpenClaim := { program := "ytecfchkmmnphdaa", sum := "b218da39c4767e331772c522690e288b967beac4d5a4121949123660435e71c3", func := "mimesis/mimesislaw40.CompareTexts", spec := "compareTexts", unfollowed := true, recurses := true, apart := false }
def CompareTextsSaid : Prop := compareTextsRow.holds Try.pinned (OpenSpec.ofChange compareTextsSpec)

/-- ITS FALSE NEIGHBOUR: 'it returns false'. Refute it at one input. -/
def compareTextsWrong : ChangeSpec := { name := "compareTexts", fn := fun _ => fun
  | [d] => { results := [.lit (.bool false)], args := [d] }
  | _ => none }
def CompareTextsWrongFalsely : Prop := compareTextsRow.holds Try.pinned (OpenSpec.ofChange compareTextsWrong)

/-- 'mimesislaw43.RecordReads': WHATEVER THE INPUT: true; the input reads as it did. -/
def recordReadsSpec : ChangeSpec := { name := "recordReads", fn := fun _ => fun
  | [d] => { results := [.lit (.bool true)], args := [d] }
  | _ => none }
def recordReadsRow : OpenClaim := { program := "ytecfchkmmnphdaa", sum := "b218da39c4767e331772c522690e288b967beac4d5a4121949123660435e71c3", func := "mimesis/mimesislaw43.RecordReads", spec := "recordReads", unfollowed := true, recurses := true, apart := false }
def RecordReadsSaid : Prop := recordReadsRow.holds Try.pinned (OpenSpec.ofChange recordReadsSpec)

/-- ITS FALSE NEIGHBOUR: 'it returns false'. Refute it at one input. -/
def recordReadsWrong : ChangeSpec := { name := "recordReads", fn := fun _ => fun
  | [d] => { results := [.lit (.bool false)], args := [d] }
  | _ => none }
def RecordReadsWrongFalsely : Prop := recordReadsRow.holds Try.pinned (OpenSpec.ofChange recordReadsWrong)

/-- 'mimesislaw43.RecordBack': WHATEVER THE INPUT: true; the input reads as it did. -/
def recordBackSpec : ChangeSpec := { name := "recordBack", fn := fun _ => fun
  | [d1, d2] => { results := [.lit (.bool true)], args := [d1, d2] }
  | _ => none }
def recordBackRow : OpenClaim := { program := "ytecfchkmmnphdaa", sum := "b218da39c4767e331772c522690e288b967beac4d5a4121949123660435e71c3", func := "mimesis/mimesislaw43.RecordBack", spec := "recordBack", unfollowed := true, recurses := true, apart := false }
def RecordBackSaid : Prop := recordBackRow.holds Try.pinned (OpenSpec.ofChange recordBackSpec)

/-- ITS FALSE NEIGHBOUR: 'it returns false'. Refute it at one input. -/
def recordBackWrong : ChangeSpec := { name := "recordBack", fn := fun _ => fun
  | [d1, d2] => { results := [.lit (.bool false)], args := [d1, d2] }
  | _ => none }
def RecordBackWrongFalsely : Prop := recordBackRow.holds Try.pinned (OpenSpec.ofChange recordBackWrong)

/-- 'mimesislaw43.RecordMany': WHATEVER THE INPUT: true; the input reads as it did. -/
def recordManySpec : ChangeSpec := { name := "recordMany", fn := fun _ => fun
  | [d1, d2] => { results := [.lit (.bool true)], args := [d1, d2] }
  | _ => none }
def recordManyRow : OpenClaim := { program := "ytecfchkmmnphdaa", sum := "b218da39c4767e331772c522690e288b967beac4d5a4121949123660435e71c3", func := "mimesis/mimesislaw43.RecordMany", spec := "recordMany", unfollowed := true, recurses := true, apart := false }
def RecordManySaid : Prop := recordManyRow.holds Try.pinned (OpenSpec.ofChange recordManySpec)

/-- ITS FALSE NEIGHBOUR: 'it returns false'. Refute it at one input. -/
def recordManyWrong : ChangeSpec := { name := "recordMany", fn := fun _ => fun
  | [d1, d2] => { results := [.lit (.bool false)], args := [d1, d2] }
  | _ => none }
def RecordManyWrongFalsely : Prop := recordManyRow.holds Try.pinned (OpenSpec.ofChange recordManyWrong)

/-- 'mimesislaw43.RecordWrites': WHATEVER THE INPUT: true; the input reads as it did. -/
def recordWritesSpec : ChangeSpec := { name := "recordWrites", fn := fun _ => fun
  | [d] => { results := [.lit (.bool true)], args := [d] }
  | _ => none }
def recordWritesRow : OpenClaim := { program := "ytecfchkmmnphdaa", sum := "b218da39c4767e331772c522690e288b967beac4d5a4121949123660435e71c3", func := "mimesis/mimesislaw43.RecordWrites", spec := "recordWrites", unfollowed := true, recurses := true, apart := false }
def RecordWritesSaid : Prop := recordWritesRow.holds Try.pinned (OpenSpec.ofChange recordWritesSpec)

/-- ITS FALSE NEIGHBOUR: 'it returns false'. Refute it at one input. -/
def recordWritesWrong : ChangeSpec := { name := "recordWrites", fn := fun _ => fun
  | [d] => { results := [.lit (.bool false)], args := [d] }
  | _ => none }
def RecordWritesWrongFalsely : Prop := recordWritesRow.holds Try.pinned (OpenSpec.ofChange recordWritesWrong)

/-- 'mimesislaw42.ForwardAgain': WHATEVER THE INPUT: true; the input reads as it did. -/
def forwardAgainSpec : ChangeSpec := { name := "forwardAgain", fn := fun _ => fun
  | [d] => { results := [.lit (.bool true)], args := [d] }
  | _ => none }
def forwardAgainRow : OpenClaim := { program := "ytecfchkmmnphdaa", sum := "b218da39c4767e331772c522690e288b967beac4d5a4121949123660435e71c3", func := "mimesis/mimesislaw42.ForwardAgain", spec := "forwardAgain", unfollowed := true, recurses := true, apart := false }
def ForwardAgainSaid : Prop := forwardAgainRow.holds Try.pinned (OpenSpec.ofChange forwardAgainSpec)

/-- ITS FALSE NEIGHBOUR: 'it returns false'. Refute it at one input. -/
def forwardAgainWrong : ChangeSpec := { name := "forwardAgain", fn := fun _ => fun
  | [d] => { results := [.lit (.bool false)], args := [d] }
  | _ => none }
def ForwardAgainWrongFalsely : Prop := forwardAgainRow.holds Try.pinned (OpenSpec.ofChange forwardAgainWrong)

/-- 'mimesislaw42.ForwardLeast': WHATEVER THE INPUT: true; the input reads as it did. -/
def forwardLeastSpec : ChangeSpec := { name := "forwardLeast", fn := fun _ => fun
  | [d] => { results := [.lit (.bool true)], args := [d] }
  | _ => none }
def forwardLeastRow : OpenClaim := { program := "ytecfchkmmnphdaa", sum := "b218da39c4767e331772c522690e288b967beac4d5a4121949123660435e71c3", func := "mimesis/mimesislaw42.ForwardLeast", spec := "forwardLeast", unfollowed := true, recurses := true, apart := false }
def ForwardLeastSaid : Prop := forwardLeastRow.holds Try.pinned (OpenSpec.ofChange forwardLeastSpec)

/-- ITS FALSE NEIGHBOUR: 'it returns false'. Refute it at one input. -/
def forwardLeastWrong : ChangeSpec := { name := "forwardLeast", fn := fun _ => fun
  | [d] => { results := [.lit (.bool false)], args := [d] }
  | _ => none }
def ForwardLeastWrongFalsely : Prop := forwardLeastRow.holds Try.pinned (OpenSpec.ofChange forwardLeastWrong)

/- THE SECOND FORM. 'bulk': how many values and letters a reading holds, each counted each time it is reached (what is shared counts as often as it is met; a slice's spare places count too). A statement '..UptoSaid' is the law's where the arguments, and the package variables that the reading takes, are together of bulk at most 1048576: NARROWER than '..Said'. Prove '..Said' where nothing that the law and all that it calls make is longer than what came in: it says more and counts as full. Else prove '..UptoSaid'. A law counts once. -/
mutual
def uptoBulk {H : Type} : DataW H → Nat
  | .lit (.string bytes) => bytes.length + 1
  | .lit _ => 1
  | .nil => 1
  | .ptr d => uptoBulk d + 1
  | .slice elems spare => uptoBulkAll elems + uptoBulkAll spare + 1
  | .agg parts => uptoBulkAll parts + 1
  | .iface _ d => uptoBulk d + 1
  | .map entries => uptoBulkEntries entries + 1
  | .held _ => 1
def uptoBulkAll {H : Type} : List (DataW H) → Nat
  | [] => 0
  | d :: r => uptoBulk d + uptoBulkAll r
def uptoBulkEntries {H : Type} : List (Lit × DataW H) → Nat
  | [] => 0
  | x :: r => uptoBulkEntry x + uptoBulkEntries r
def uptoBulkEntry {H : Type} : Lit × DataW H → Nat
  | (.string bytes, d) => bytes.length + uptoBulk d + 1
  | (_, d) => uptoBulk d + 1
 end
def uptoSmall : (H : Type) → List (DataW H) → Bool := fun _ ds => decide (uptoBulkAll ds ≤ 1048576)
def OpenSpec.upto (s : _root_.Go.ChangeSpec) : _root_.Go.OpenSpec := { _root_.Go.OpenSpec.ofChange s with cond := some uptoSmall }

/-- 'mimesislaw40.CompareStates', WHERE WHAT IT READS IS OF BULK AT MOST 1048576: true; the input reads as it did. -/
def compareStatesUptoRow : OpenClaim := { program := "ytecfchkmmnphdaa", sum := "b218da39c4767e331772c522690e288b967beac4d5a4121949123660435e71c3", func := "mimesis/mimesislaw40.CompareStates", spec := "compareStates", unfollowed := true, recurses := true, apart := false, narrowed := true }
def CompareStatesUptoSaid : Prop := compareStatesUptoRow.holds Try.pinned (OpenSpec.upto compareStatesSpec)

/-- 'mimesislaw40.CompareEvents', WHERE WHAT IT READS IS OF BULK AT MOST 1048576: true; the input reads as it did. -/
def compareEventsUptoRow : OpenClaim := { program := "ytecfchkmmnphdaa", sum := "b218da39c4767e331772c522690e288b967beac4d5a4121949123660435e71c3", func := "mimesis/mimesislaw40.CompareEvents", spec := "compareEvents", unfollowed := true, recurses := true, apart := false, narrowed := true }
def CompareEventsUptoSaid : Prop := compareEventsUptoRow.holds Try.pinned (OpenSpec.upto compareEventsSpec)

/-- 'mimesislaw40.CompareTexts', WHERE WHAT IT READS IS OF BULK AT MOST 1048576: true; the input reads as it did. -/
def compareTextsUptoRow : OpenClaim := { program := "ytecfchkmmnphdaa", sum := "b218da39c4767e331772c522690e288b967beac4d5a4121949123660435e71c3", func := "mimesis/mimesislaw40.CompareTexts", spec := "compareTexts", unfollowed := true, recurses := true, apart := false, narrowed := true }
def CompareTextsUptoSaid : Prop := compareTextsUptoRow.holds Try.pinned (OpenSpec.upto compareTextsSpec)

/-- 'mimesislaw43.RecordReads', WHERE WHAT IT READS IS OF BULK AT MOST 1048576: true; the input reads as it did. -/
def recordReadsUptoRow : OpenClaim := { program := "ytecfchkmmnphdaa", sum := "b218da39c4767e331772c522690e288b967beac4d5a4121949123660435e71c3", func := "mimesis/mimesislaw43.RecordReads", spec := "recordReads", unfollowed := true, recurses := true, apart := false, narrowed := true }
def RecordReadsUptoSaid : Prop := recordReadsUptoRow.holds Try.pinned (OpenSpec.upto recordReadsSpec)

/-- 'mimesislaw43.RecordBack', WHERE WHAT IT READS IS OF BULK AT MOST 1048576: true; the input reads as it did. -/
def recordBackUptoRow : OpenClaim := { program := "ytecfchkmmnphdaa", sum := "b218da39c4767e331772c522690e288b967beac4d5a4121949123660435e71c3", func := "mimesis/mimesislaw43.RecordBack", spec := "recordBack", unfollowed := true, recurses := true, apart := false, narrowed := true }
def RecordBackUptoSaid : Prop := recordBackUptoRow.holds Try.pinned (OpenSpec.upto recordBackSpec)

/-- 'mimesislaw43.RecordMany', WHERE WHAT IT READS IS OF BULK AT MOST 1048576: true; the input reads as it did. -/
def recordManyUptoRow : OpenClaim := { program := "ytecfchkmmnphdaa", sum := "b218da39c4767e331772c522690e288b967beac4d5a4121949123660435e71c3", func := "mimesis/mimesislaw43.RecordMany", spec := "recordMany", unfollowed := true, recurses := true, apart := false, narrowed := true }
def RecordManyUptoSaid : Prop := recordManyUptoRow.holds Try.pinned (OpenSpec.upto recordManySpec)

/-- 'mimesislaw43.RecordWrites', WHERE WHAT IT READS IS OF BULK AT MOST 1048576: true; the input reads as it did. -/
def recordWritesUptoRow : OpenClaim := { program := "ytecfchkmmnphdaa", sum := "b218da39c4767e331772c522690e288b967beac4d5a4121949123660435e71c3", func := "mimesis/mimesislaw43.RecordWrites", spec := "recordWrites", unfollowed := true, recurses := true, apart := false, narrowed := true }
def RecordWritesUptoSaid : Prop := recordWritesUptoRow.holds Try.pinned (OpenSpec.upto recordWritesSpec)

/-- 'mimesislaw42.ForwardAgain', WHERE WHAT IT READS IS OF BULK AT MOST 1048576: true; the input reads as it did. -/
def forwardAgainUptoRow : OpenClaim := { program := "ytecfchkmmnphdaa", sum := "b218da39c4767e331772c522690e288b967beac4d5a4121949123660435e71c3", func := "mimesis/mimesislaw42.ForwardAgain", spec := "forwardAgain", unfollowed := true, recurses := true, apart := false, narrowed := true }
def ForwardAgainUptoSaid : Prop := forwardAgainUptoRow.holds Try.pinned (OpenSpec.upto forwardAgainSpec)

/-- 'mimesislaw42.ForwardLeast', WHERE WHAT IT READS IS OF BULK AT MOST 1048576: true; the input reads as it did. -/
def forwardLeastUptoRow : OpenClaim := { program := "ytecfchkmmnphdaa", sum := "b218da39c4767e331772c522690e288b967beac4d5a4121949123660435e71c3", func := "mimesis/mimesislaw42.ForwardLeast", spec := "forwardLeast", unfollowed := true, recurses := true, apart := false, narrowed := true }
def ForwardLeastUptoSaid : Prop := forwardLeastUptoRow.holds Try.pinned (OpenSpec.upto forwardLeastSpec)

end Rows
end Go.Proofs.Ytecfchkmmnphdaa
