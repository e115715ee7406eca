/-
  No cell of these rows narrows 'for every input' (looked for: loops, veiled, ifaces, maps, wideKeys, modest, calm, conditions, laid).
  DERIVED. THE GIVEN ROWS OF THIS SEAT. 3 by the template 'for every input the law returns true; each argument reads behind the call as it read before'; 0 by the template 'total and deterministic' (their statements: YtjaknpophnolmaaTotals.lean).
  GIVEN WITH THE SEED: the statements are not yours to turn. If you find one false, say at which input.
  Laid BY PROGRAM, IN A SANDBOX (cutbox-rows.mjs): the forced cells as the released guide's own fill.sh prints them over the translation 8c9426dc5ac12d09… (all of the seat's roots in one cut). By AI agents, Wed Nov 11 2026. No macro, syntax, notation, axiom, sorry.
-/
import Derived.Test.YtjaknpophnolmaaChecked
import GoSem.Claim
import GoSem.ClaimJoined
import GoSem.ClaimMapViews
import Derived.JoinedTies
import Derived.KernelRfl
namespace Go.Proofs.Ytjaknpophnolmaa
/- THE CELL 'sum', in the pinned program and in every row, IS THE sha256 OF THE DUMP (.gsa) THAT YtjaknpophnolmaaProg.lean LOADS. Nothing in Lean hashes anything: it is a label: what it is worth is what the hold of that sum in a sandbox is worth. -/
noncomputable def Try.pinned : Pinned := { name := "ytjaknpophnolmaa", sum := "8c9426dc5ac12d0967913e56a51ab040af8ae87241fd51a1f94e7527848e9abb", checked := Try.checked }
namespace Rows
def none {H : Type} : Left H := { results := [], args := [] }

/-- 'mimesislaw24.EvalPure': WHATEVER THE INPUT: true; the input reads as it did. -/
def evalPureSpec : ChangeSpec := { name := "evalPure", fn := fun _ => fun
  | [d1, d2, d3] => { results := [.lit (.bool true)], args := [d1, d2, d3] }
  | _ => none }
def evalPureRow : OpenClaim := { program := "ytjaknpophnolmaa", sum := "8c9426dc5ac12d0967913e56a51ab040af8ae87241fd51a1f94e7527848e9abb", func := "mimesis/mimesislaw24.EvalPure", spec := "evalPure", unfollowed := true, recurses := true, apart := false }
def EvalPureSaid : Prop := evalPureRow.holds Try.pinned (OpenSpec.ofChange evalPureSpec)

/-- ITS FALSE NEIGHBOUR: 'it returns false'. Refute it at one input. -/
def evalPureWrong : ChangeSpec := { name := "evalPure", fn := fun _ => fun
  | [d1, d2, d3] => { results := [.lit (.bool false)], args := [d1, d2, d3] }
  | _ => none }
def EvalPureWrongFalsely : Prop := evalPureRow.holds Try.pinned (OpenSpec.ofChange evalPureWrong)

/-- 'mimesislaw24.EvalKeeps': WHATEVER THE INPUT: true; the input reads as it did. -/
def evalKeepsSpec : ChangeSpec := { name := "evalKeeps", fn := fun _ => fun
  | [d1, d2] => { results := [.lit (.bool true)], args := [d1, d2] }
  | _ => none }
def evalKeepsRow : OpenClaim := { program := "ytjaknpophnolmaa", sum := "8c9426dc5ac12d0967913e56a51ab040af8ae87241fd51a1f94e7527848e9abb", func := "mimesis/mimesislaw24.EvalKeeps", spec := "evalKeeps", unfollowed := true, recurses := true, apart := false }
def EvalKeepsSaid : Prop := evalKeepsRow.holds Try.pinned (OpenSpec.ofChange evalKeepsSpec)

/-- ITS FALSE NEIGHBOUR: 'it returns false'. Refute it at one input. -/
def evalKeepsWrong : ChangeSpec := { name := "evalKeeps", fn := fun _ => fun
  | [d1, d2] => { results := [.lit (.bool false)], args := [d1, d2] }
  | _ => none }
def EvalKeepsWrongFalsely : Prop := evalKeepsRow.holds Try.pinned (OpenSpec.ofChange evalKeepsWrong)

/-- 'mimesislaw24.EvalDoes': WHATEVER THE INPUT: true; the input reads as it did. -/
def evalDoesSpec : ChangeSpec := { name := "evalDoes", fn := fun _ => fun
  | [d1, d2] => { results := [.lit (.bool true)], args := [d1, d2] }
  | _ => none }
def evalDoesRow : OpenClaim := { program := "ytjaknpophnolmaa", sum := "8c9426dc5ac12d0967913e56a51ab040af8ae87241fd51a1f94e7527848e9abb", func := "mimesis/mimesislaw24.EvalDoes", spec := "evalDoes", unfollowed := true, recurses := true, apart := false }
def EvalDoesSaid : Prop := evalDoesRow.holds Try.pinned (OpenSpec.ofChange evalDoesSpec)

/-- ITS FALSE NEIGHBOUR: 'it returns false'. Refute it at one input. -/
def evalDoesWrong : ChangeSpec := { name := "evalDoes", fn := fun _ => fun
  | [d1, d2] => { results := [.lit (.bool false)], args := [d1, d2] }
  | _ => none }
def EvalDoesWrongFalsely : Prop := evalDoesRow.holds Try.pinned (OpenSpec.ofChange evalDoesWrong)

/- THE SECOND FORM. 'bulk': how many values and letters a reading holds, each counted each time it is reached (what is shared counts as often as it is met; a slice's spare places count too). A statement '..UptoSaid' is the law's where the arguments, and the package variables that the reading takes, are together of bulk at most 1048576: NARROWER than '..Said'. Prove '..Said' where nothing that the law and all that it calls make is longer than what came in: it says more and counts as full. Else prove '..UptoSaid'. A law counts once. -/
mutual
def uptoBulk {H : Type} : DataW H → Nat
  | .lit (.string bytes) => bytes.length + 1
  | .lit _ => 1
  | .nil => 1
  | .ptr d => uptoBulk d + 1
  | .slice elems spare => uptoBulkAll elems + uptoBulkAll spare + 1
  | .agg parts => uptoBulkAll parts + 1
  | .iface _ d => uptoBulk d + 1
  | .map entries => uptoBulkEntries entries + 1
  | .held _ => 1
def uptoBulkAll {H : Type} : List (DataW H) → Nat
  | [] => 0
  | d :: r => uptoBulk d + uptoBulkAll r
def uptoBulkEntries {H : Type} : List (Lit × DataW H) → Nat
  | [] => 0
  | x :: r => uptoBulkEntry x + uptoBulkEntries r
def uptoBulkEntry {H : Type} : Lit × DataW H → Nat
  | (.string bytes, d) => bytes.length + uptoBulk d + 1
  | (_, d) => uptoBulk d + 1
 end
def uptoSmall : (H : Type) → List (DataW H) → Bool := fun _ ds => decide (uptoBulkAll ds ≤ 1048576)
def OpenSpec.upto (s : _root_.Go.ChangeSpec) : _root_.Go.OpenSpec := { _root_.Go.OpenSpec.ofChange s with cond := some uptoSmall }

/-- 'mimesislaw24.EvalPure', WHERE WHAT IT READS IS OF BULK AT MOST 1048576: true; the input reads as it did. -/
def evalPureUptoRow : OpenClaim := { program := "ytjaknpophnolmaa", sum := "8c9426dc5ac12d0967913e56a51ab040af8ae87241fd51a1f94e7527848e9abb", func := "mimesis/mimesislaw24.EvalPure", spec := "evalPure", unfollowed := true, recurses := true, apart := false, narrowed := true }
def EvalPureUptoSaid : Prop := evalPureUptoRow.holds Try.pinned (OpenSpec.upto evalPureSpec)

/-- 'mimesislaw24.EvalKeeps', WHERE WHAT IT READS IS OF BULK AT MOST 1048576: true; the input reads as it did. -/
def evalKeepsUptoRow : OpenClaim := { program := "ytjaknpophnolmaa", sum := "8c9426dc5ac12d0967913e56a51ab040af8ae87241fd51a1f94e7527848e9abb", func := "mimesis/mimesislaw24.EvalKeeps", spec := "evalKeeps", unfollowed := true, recurses := true, apart := false, narrowed := true }
def EvalKeepsUptoSaid : Prop := evalKeepsUptoRow.holds Try.pinned (OpenSpec.upto evalKeepsSpec)

/-- 'mimesislaw24.EvalDoes', WHERE WHAT IT READS IS OF BULK AT MOST 1048576: true; the input reads as it did. -/
def evalDoesUptoRow : OpenClaim := { program := "ytjaknpophnolmaa", sum := "8c9426dc5ac12d0967913e56a51ab040af8ae87241fd51a1f94e7527848e9abb", func := "mimesis/mimesislaw24.EvalDoes", spec := "evalDoes", unfollowed := true, recurses := true, apart := false, narrowed := true }
def EvalDoesUptoSaid : Prop := evalDoesUptoRow.holds Try.pinned (OpenSpec.upto evalDoesSpec)

end Rows
end Go.Proofs.Ytjaknpophnolmaa
