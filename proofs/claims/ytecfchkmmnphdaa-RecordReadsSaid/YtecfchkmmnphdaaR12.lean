/- The statement of layer 43 on writing and reading back. -/
import Derived.Test.YtecfchkmmnphdaaR10
import Derived.Test.YtecfchkmmnphdaaRq
set_option linter.unusedSimpArgs false
set_option linter.unusedVariables false
namespace Go.Ab
open Go.Proofs
variable {G : Glo} {h : Heap}
theorem rdA_len : ∀ (n : Nat) (bs : List (BitVec 8)) (p : Past), (rdA n bs p).2.length ≤ n := by
  intro n
  induction n with
  | zero => intro bs p; simp only [rdA]; split <;> simp
  | succ n ih =>
    intro bs p
    by_cases hb : bs = []
    · subst hb; simp [rdA_nil]
    · cases he : rdE p bs with
      | none => rw [rdA_none hb he]; simp
      | some x => rw [rdA_some hb he]; simp [ih]
theorem readL_len (bs : List (BitVec 8)) : (readL bs).length ≤ 4096 := by
  rw [readL]
  split
  · exact rdA_len _ _ _
  · simp
theorem lawBack_spec (l : List Evt) (b : List (BitVec 8)) : Spec Try.prog G 7 [evts l, byt b] h (Is (.bool true) h) := by
  refine Spec.is C7ok rfl ?_
  simp only [push_cast, simprocAttr]
  refine ⟨fun h1 => awake_spec.to ?_, fun h1 => ?_⟩
  · simp only [push_cast, simprocAttr]
  · have hl : l.length ≤ 300 := by omega
    have hb : b.length ≤ 2000 := by omega
    refine (Write_spec l (by omega)).to ?_
    simp only [push_cast, simprocAttr]
    refine ⟨fun hw => ?_, fun hw => ?_⟩
    · obtain ⟨e1, e2⟩ := read_write l hw
      refine (Read_spec (writeB l)).to ?_
      simp only [push_cast, simprocAttr, e1, e2]
      refine (SameEvents_spec l l (by omega)).to ?_
      simp only [push_cast, simprocAttr]
      refine (Read_spec b).to ?_
      simp only [push_cast, simprocAttr]
      refine ⟨fun hr => ?_, fun hr => ?_⟩
      · obtain ⟨e3, e4⟩ := write_read b hr
        refine (Write_spec (readL b) (by have := readL_len b; omega)).to ?_
        simp only [push_cast, simprocAttr, e3, e4]
        refine (SameBytes_spec b b (by omega)).to ?_
        simp only [push_cast, simprocAttr]
        refine awake_spec.to ?_
        simp only [push_cast, simprocAttr]
      · refine awake_spec.to ?_
        simp only [push_cast, simprocAttr]
    · refine (Read_spec b).to ?_
      simp only [push_cast, simprocAttr]
      refine ⟨fun hr => ?_, fun hr => ?_⟩
      · obtain ⟨e3, e4⟩ := write_read b hr
        refine (Write_spec (readL b) (by have := readL_len b; omega)).to ?_
        simp only [push_cast, simprocAttr, e3, e4]
        refine (SameBytes_spec b b (by omega)).to ?_
        simp only [push_cast, simprocAttr]
        refine awake_spec.to ?_
        simp only [push_cast, simprocAttr]
      · refine awake_spec.to ?_
        simp only [push_cast, simprocAttr]
end Go.Ab
