/- The law ForwardAgain, as it runs. -/
import Derived.Test.YtecfchkmmnphdaaB17
import Derived.Test.YtecfchkmmnphdaaB21
set_option linter.unusedSimpArgs false
set_option linter.unusedVariables false
set_option maxRecDepth 10000
namespace Go.Ab
open Go.Proofs
variable {G : Glo} {h : Heap}
theorem lawAgain_spec (b : IBk) (he : b.exits.length ≤ 9223372036854775807) : Spec Try.prog G 10 [.agg b.cells] h (Is (.bool true) h) := by
  refine Spec.is C10ok rfl ?_
  simp only [push_cast, simprocAttr]
  refine (light_spec b he).to ?_
  cases hli : b.light with
  | false =>
    simp only [push_cast, simprocAttr]
    refine awake42_spec.to ?_
    simp only [push_cast, simprocAttr]
  | true =>
    have hf := light_facts hli
    simp only [push_cast, simprocAttr]
    refine (rCheck_spec b hf.1).to ?_
    by_cases hc : b.check = 0
    · simp only [push_cast, simprocAttr, hc]
      refine (Own_spec b hf.1).to ?_
      simp only [push_cast, simprocAttr]
      refine (Do_spec b hf.1 hc).to ?_
      simp only [push_cast, simprocAttr]
      refine (Do_spec b.fw (fw_wf hf.1) (fw_check hc)).to ?_
      rw [fw_fw hc]
      simp only [push_cast, simprocAttr]
      refine (Back_spec b.fw (fw_wf hf.1)).to ?_
      simp only [push_cast, simprocAttr]
      refine (Back_spec b.fw (fw_wf hf.1)).to ?_
      simp only [push_cast, simprocAttr]
      refine (rSame_spec b.fw b.fw (fw_wf hf.1)).to ?_
      simp only [push_cast, simprocAttr]
      refine awake42_spec.to ?_
      simp only [push_cast, simprocAttr]
    · simp only [push_cast, simprocAttr, hc]
      refine awake42_spec.to ?_
      simp only [push_cast, simprocAttr]
end Go.Ab
