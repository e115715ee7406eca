/- The law RecordReads, as it runs. -/
import Derived.Test.YtecfchkmmnphdaaR13
import Derived.Test.YtecfchkmmnphdaaR12
set_option linter.unusedSimpArgs false
set_option linter.unusedVariables false
namespace Go.Ab
open Go.Proofs
variable {G : Glo} {h : Heap}
theorem lawReads_spec (b : List (BitVec 8)) : Spec Try.prog G 6 [byt b] h (Is (.bool true) h) := by
  refine Spec.is C6ok rfl ?_
  simp only [push_cast, simprocAttr]
  refine ⟨fun h1 => awake_spec.to ?_, fun h1 => ?_⟩
  · simp only [push_cast, simprocAttr]
  · refine (Read_spec b).to ?_
    simp only [push_cast, simprocAttr]
    refine (rRead_spec b (by omega)).to ?_
    simp only [push_cast, simprocAttr]
    refine (SameEvents_spec (readL b) (readL b) (by have := readL_len b; omega)).to ?_
    simp only [push_cast, simprocAttr]
    refine awake_spec.to ?_
    simp only [push_cast, simprocAttr]
end Go.Ab
