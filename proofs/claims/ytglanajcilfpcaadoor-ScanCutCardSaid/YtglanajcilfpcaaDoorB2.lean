/- Contracts: small ones of blocks. -/
import Derived.Test.YtglanajcilfpcaaDoorB1
import Derived.Test.YtglanajcilfpcaaDoorC26
set_option linter.unusedSimpArgs false
set_option linter.unusedVariables false
namespace Go.Ab
open Go.Proofs
variable {G : Glo} {h : Heap}
theorem rHas7_spec (n : Int) : Spec Tryd.prog G 77 [.int .i64 n] h (Is (.bool (decide (19 ≤ n) && decide (n ≤ 37))) h) := by
  refine Spec.is C77ok rfl ?_
  simp only [push_cast, simprocAttr]
theorem rHas8_spec (n : Int) : Spec Tryd.prog G 78 [.int .i64 n] h (Is (.bool (decide (50 ≤ n) && decide (n ≤ 57))) h) := by
  refine Spec.is C78ok rfl ?_
  simp only [push_cast, simprocAttr]
theorem rReckons_spec (n : Int) : Spec Tryd.prog G 53 [.int .i64 n] h (Is (.bool (reckonsN n)) h) := by
  refine Spec.is C53ok rfl ?_
  simp only [push_cast, simprocAttr]
  refine (rHas7_spec n).to ?_
  simp only [push_cast, simprocAttr, reckonsN]
  refine ⟨fun h1 => (rHas8_spec n).to ?_, fun h1 => ?_⟩
  · simp only [push_cast, simprocAttr]
    rw [h1]; rfl
  · (first | rfl | (congr 1; done) | (congr 1; rw [Bool.eq_iff_iff]; simp only [Bool.and_eq_true, Bool.or_eq_true, Bool.not_eq_true', decide_eq_true_eq, decide_eq_false_iff_not, Bool.false_eq_true, true_and, and_true]; first | omega | grind))
theorem getD_map {b : IBk} {n M : Nat} (hm : ∀ e ∈ b.exits, e.map.length ≤ M) : (b.exits.getD n IEx.zero).map.length ≤ M := by
  by_cases hn : n < b.exits.length
  · have : b.exits.getD n IEx.zero = b.exits[n] := by simp [hn]
    rw [this]
    exact hm _ (List.getElem_mem _)
  · have : b.exits.getD n IEx.zero = IEx.zero := by simp [Nat.not_lt.1 hn]
    rw [this]
    simp [IEx.zero]
end Go.Ab
