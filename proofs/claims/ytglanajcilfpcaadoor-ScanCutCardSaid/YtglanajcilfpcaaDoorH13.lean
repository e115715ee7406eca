/- Rows and paths: where an item goes on. -/
import Derived.Test.YtglanajcilfpcaaDoorH12
set_option linter.unusedSimpArgs false
set_option linter.unusedVariables false
set_option maxRecDepth 10000
namespace Go.Ab
open Go.Proofs
variable {G : Glo} {h : Heap}
theorem it_at (x : IIt) : x.cells.length = 8 ∧ x.cells[0]? = some (.int .u32 (x.pc.toNat : Int)) ∧ x.cells[1]? = some (.int .i64 x.i.op) ∧ x.cells[5]? = some (.int .u32 (x.i.imm.toNat : Int)) ∧ x.cells[7]? = some (.int .u32 (x.next.toNat : Int)) ∧ ∀ y : BitVec 32, x.cells.set 7 (.int .u32 (y.toNat : Int)) = { x with next := y }.cells :=
  ⟨rfl, rfl, rfl, rfl, rfl, fun _ => rfl⟩
theorem rowOn_spec {H : Heap} {c : Nat} {x : IIt} {n : Nat} (hc : H c = some ⟨x.cells, 0⟩) (hn : x.i.op = n) (h58 : n < 58) : Spec Tryd.prog G 28 [.ptr c 0] H (Is (.bool (!endsN n)) H) := by
  obtain ⟨l8, g0, g1, g5, g7, _⟩ := it_at x
  rw [hn] at g1
  have he := Ends_spec (G := G) (h := H) n h58
  refine Spec.is C28ok rfl ?_
  simp only [push_cast, simprocAttr, hc, g1, l8]
  refine he.to ?_
  simp only [push_cast, simprocAttr]
end Go.Ab
