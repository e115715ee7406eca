/-
  No cell of these rows narrows 'for every input' (looked for: loops, veiled, ifaces, maps, wideKeys, modest, calm, conditions, laid).
  DERIVED. THE GIVEN ROWS OF THIS SEAT. 4 by the template 'for every input the law returns true; each argument reads behind the call as it read before'; 0 by the template 'total and deterministic' (their statements: YtfgooaploagiaaaGreatTotals.lean).
  GIVEN WITH THE SEED: the statements are not yours to turn. If you find one false, say at which input.
  Laid BY PROGRAM, IN A SANDBOX (cutbox-rows.mjs): the forced cells as the released guide's own fill.sh prints them over the translation c7de9ef9c1ac4986… (all of the seat's roots in one cut). By AI agents, Wed Nov 11 2026. No macro, syntax, notation, axiom, sorry.
-/
import Derived.Test.YtfgooaploagiaaaGreatChecked
import GoSem.Claim
import GoSem.ClaimJoined
import GoSem.ClaimMapViews
import Derived.JoinedTies
import Derived.KernelRfl
namespace Go.Proofs.YtfgooaploagiaaaGreat
/- THE CELL 'sum', in the pinned program and in every row, IS THE sha256 OF THE DUMP (.gsa) THAT YtfgooaploagiaaaGreatProg.lean LOADS. Nothing in Lean hashes anything: it is a label: what it is worth is what the hold of that sum in a sandbox is worth. -/
noncomputable def Tryz.pinned : Pinned := { name := "ytfgooaploagiaaagreat", sum := "c7de9ef9c1ac4986087b2979b7b48e0a687260448b4d6940ecbd2b03882aa745", checked := Tryz.checked }
namespace Rows
def none {H : Type} : Left H := { results := [], args := [] }

/-- 'mimesislaw33.PassesRun': WHATEVER THE INPUT: true; the input reads as it did. -/
def passesRunSpec : ChangeSpec := { name := "passesRun", fn := fun _ => fun
  | [d1, d2] => { results := [.lit (.bool true)], args := [d1, d2] }
  | _ => none }
def passesRunRow : OpenClaim := { program := "ytfgooaploagiaaagreat", sum := "c7de9ef9c1ac4986087b2979b7b48e0a687260448b4d6940ecbd2b03882aa745", func := "mimesis/mimesislaw33.PassesRun", spec := "passesRun", unfollowed := true, recurses := true, apart := false }
def PassesRunSaid : Prop := passesRunRow.holds Tryz.pinned (OpenSpec.ofChange passesRunSpec)

/-- ITS FALSE NEIGHBOUR: 'it returns false'. Refute it at one input. -/
def passesRunWrong : ChangeSpec := { name := "passesRun", fn := fun _ => fun
  | [d1, d2] => { results := [.lit (.bool false)], args := [d1, d2] }
  | _ => none }
def PassesRunWrongFalsely : Prop := passesRunRow.holds Tryz.pinned (OpenSpec.ofChange passesRunWrong)

/-- 'mimesislaw33.PassesSame': WHATEVER THE INPUT: true; the input reads as it did. -/
def passesSameSpec : ChangeSpec := { name := "passesSame", fn := fun _ => fun
  | [d1, d2, d3] => { results := [.lit (.bool true)], args := [d1, d2, d3] }
  | _ => none }
def passesSameRow : OpenClaim := { program := "ytfgooaploagiaaagreat", sum := "c7de9ef9c1ac4986087b2979b7b48e0a687260448b4d6940ecbd2b03882aa745", func := "mimesis/mimesislaw33.PassesSame", spec := "passesSame", unfollowed := true, recurses := true, apart := false }
def PassesSameSaid : Prop := passesSameRow.holds Tryz.pinned (OpenSpec.ofChange passesSameSpec)

/-- ITS FALSE NEIGHBOUR: 'it returns false'. Refute it at one input. -/
def passesSameWrong : ChangeSpec := { name := "passesSame", fn := fun _ => fun
  | [d1, d2, d3] => { results := [.lit (.bool false)], args := [d1, d2, d3] }
  | _ => none }
def PassesSameWrongFalsely : Prop := passesSameRow.holds Tryz.pinned (OpenSpec.ofChange passesSameWrong)

/-- 'mimesislaw42.ForwardDoes': WHATEVER THE INPUT: true; the input reads as it did. -/
def forwardDoesSpec : ChangeSpec := { name := "forwardDoes", fn := fun _ => fun
  | [d] => { results := [.lit (.bool true)], args := [d] }
  | _ => none }
def forwardDoesRow : OpenClaim := { program := "ytfgooaploagiaaagreat", sum := "c7de9ef9c1ac4986087b2979b7b48e0a687260448b4d6940ecbd2b03882aa745", func := "mimesis/mimesislaw42.ForwardDoes", spec := "forwardDoes", unfollowed := true, recurses := true, apart := false }
def ForwardDoesSaid : Prop := forwardDoesRow.holds Tryz.pinned (OpenSpec.ofChange forwardDoesSpec)

/-- ITS FALSE NEIGHBOUR: 'it returns false'. Refute it at one input. -/
def forwardDoesWrong : ChangeSpec := { name := "forwardDoes", fn := fun _ => fun
  | [d] => { results := [.lit (.bool false)], args := [d] }
  | _ => none }
def ForwardDoesWrongFalsely : Prop := forwardDoesRow.holds Tryz.pinned (OpenSpec.ofChange forwardDoesWrong)

/-- 'mimesislaw42.ForwardSame': WHATEVER THE INPUT: true; the input reads as it did. -/
def forwardSameSpec : ChangeSpec := { name := "forwardSame", fn := fun _ => fun
  | [d1, d2] => { results := [.lit (.bool true)], args := [d1, d2] }
  | _ => none }
def forwardSameRow : OpenClaim := { program := "ytfgooaploagiaaagreat", sum := "c7de9ef9c1ac4986087b2979b7b48e0a687260448b4d6940ecbd2b03882aa745", func := "mimesis/mimesislaw42.ForwardSame", spec := "forwardSame", unfollowed := true, recurses := true, apart := false }
def ForwardSameSaid : Prop := forwardSameRow.holds Tryz.pinned (OpenSpec.ofChange forwardSameSpec)

/-- ITS FALSE NEIGHBOUR: 'it returns false'. Refute it at one input. -/
def forwardSameWrong : ChangeSpec := { name := "forwardSame", fn := fun _ => fun
  | [d1, d2] => { results := [.lit (.bool false)], args := [d1, d2] }
  | _ => none }
def ForwardSameWrongFalsely : Prop := forwardSameRow.holds Tryz.pinned (OpenSpec.ofChange forwardSameWrong)

/- THE SECOND FORM. 'bulk': how many values and letters a reading holds, each counted each time it is reached (what is shared counts as often as it is met; a slice's spare places count too). A statement '..UptoSaid' is the law's where the arguments, and the package variables that the reading takes, are together of bulk at most 1048576: NARROWER than '..Said'. Prove '..Said' where nothing that the law and all that it calls make is longer than what came in: it says more and counts as full. Else prove '..UptoSaid'. A law counts once. -/
mutual
def uptoBulk {H : Type} : DataW H → Nat
  | .lit (.string bytes) => bytes.length + 1
  | .lit _ => 1
  | .nil => 1
  | .ptr d => uptoBulk d + 1
  | .slice elems spare => uptoBulkAll elems + uptoBulkAll spare + 1
  | .agg parts => uptoBulkAll parts + 1
  | .iface _ d => uptoBulk d + 1
  | .map entries => uptoBulkEntries entries + 1
  | .held _ => 1
def uptoBulkAll {H : Type} : List (DataW H) → Nat
  | [] => 0
  | d :: r => uptoBulk d + uptoBulkAll r
def uptoBulkEntries {H : Type} : List (Lit × DataW H) → Nat
  | [] => 0
  | x :: r => uptoBulkEntry x + uptoBulkEntries r
def uptoBulkEntry {H : Type} : Lit × DataW H → Nat
  | (.string bytes, d) => bytes.length + uptoBulk d + 1
  | (_, d) => uptoBulk d + 1
 end
def uptoSmall : (H : Type) → List (DataW H) → Bool := fun _ ds => decide (uptoBulkAll ds ≤ 1048576)
def OpenSpec.upto (s : _root_.Go.ChangeSpec) : _root_.Go.OpenSpec := { _root_.Go.OpenSpec.ofChange s with cond := some uptoSmall }

/-- 'mimesislaw33.PassesRun', WHERE WHAT IT READS IS OF BULK AT MOST 1048576: true; the input reads as it did. -/
def passesRunUptoRow : OpenClaim := { program := "ytfgooaploagiaaagreat", sum := "c7de9ef9c1ac4986087b2979b7b48e0a687260448b4d6940ecbd2b03882aa745", func := "mimesis/mimesislaw33.PassesRun", spec := "passesRun", unfollowed := true, recurses := true, apart := false, narrowed := true }
def PassesRunUptoSaid : Prop := passesRunUptoRow.holds Tryz.pinned (OpenSpec.upto passesRunSpec)

/-- 'mimesislaw33.PassesSame', WHERE WHAT IT READS IS OF BULK AT MOST 1048576: true; the input reads as it did. -/
def passesSameUptoRow : OpenClaim := { program := "ytfgooaploagiaaagreat", sum := "c7de9ef9c1ac4986087b2979b7b48e0a687260448b4d6940ecbd2b03882aa745", func := "mimesis/mimesislaw33.PassesSame", spec := "passesSame", unfollowed := true, recurses := true, apart := false, narrowed := true }
def PassesSameUptoSaid : Prop := passesSameUptoRow.holds Tryz.pinned (OpenSpec.upto passesSameSpec)

/-- 'mimesislaw42.ForwardDoes', WHERE WHAT IT READS IS OF BULK AT MOST 1048576: true; the input reads as it did. -/
def forwardDoesUptoRow : OpenClaim := { program := "ytfgooaploagiaaagreat", sum := "c7de9ef9c1ac4986087b2979b7b48e0a687260448b4d6940ecbd2b03882aa745", func := "mimesis/mimesislaw42.ForwardDoes", spec := "forwardDoes", unfollowed := true, recurses := true, apart := false, narrowed := true }
def ForwardDoesUptoSaid : Prop := forwardDoesUptoRow.holds Tryz.pinned (OpenSpec.upto forwardDoesSpec)

/-- 'mimesislaw42.ForwardSame', WHERE WHAT IT READS IS OF BULK AT MOST 1048576: true; the input reads as it did. -/
def forwardSameUptoRow : OpenClaim := { program := "ytfgooaploagiaaagreat", sum := "c7de9ef9c1ac4986087b2979b7b48e0a687260448b4d6940ecbd2b03882aa745", func := "mimesis/mimesislaw42.ForwardSame", spec := "forwardSame", unfollowed := true, recurses := true, apart := false, narrowed := true }
def ForwardSameUptoSaid : Prop := forwardSameUptoRow.holds Tryz.pinned (OpenSpec.upto forwardSameSpec)

end Rows
end Go.Proofs.YtfgooaploagiaaaGreat
