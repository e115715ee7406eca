/- The statements of layer 43 on what is written. -/
import Derived.Test.YtecfchkmmnphdaaR8
set_option linter.unusedSimpArgs false
set_option linter.unusedVariables false
namespace Go.Ab
open Go.Proofs
variable {G : Glo} {h : Heap}
def ev0 : Evt := ⟨1, 3, 65, 0, 0, 0, Rg.zero, Kp.zero⟩
theorem ev0_cells : [AV.int .i64 1, .int .u64 3, .int .u32 65, .int .u32 0, .int .u32 0, .int .u32 0, .int .u32 0, .int .u32 0, .int .u32 0, .int .u32 0, .int .u32 0, .int .u32 0, .int .u32 0, .int .u32 0, .int .u32 0, .int .u32 0, .int .u32 0, .int .u32 0, .int .u32 0, .int .u32 0, .int .u32 0, .int .u32 0, .int .u32 0, .int .u32 0, .int .u32 0, .int .u32 0, .int .u32 0, .int .u32 0, .int .u32 0, .int .u32 0, .int .u32 0, .int .u32 0, .int .u32 0, .int .u32 0, .int .u32 0, .int .u32 0, .int .u32 0, .int .u32 0, .int .u32 0, .int .u32 0, .int .u32 0, .int .u32 0, .int .u32 0, .int .u32 0, .int .u32 0] = ev0.cells := by
  simp [Evt.cells, ev0, Rg.zero, Kp.zero, Kp.l, wds]
theorem evts_one (e : Evt) : AV.ro e.cells 1 = evts [e] := by simp [evts]
theorem ev0_w : writeM [ev0] = some [1#8, 3#8, 65#8] := by
  have h1 : ev0.right = true := by decide
  have h2 : evB ev0 Past.zero = [1#8, 3#8, 65#8] := by
    simp only [evB, ev0, Past.zero, if_true]
    rw [show (3 - 0 : BitVec 64).toNat = 3 from rfl, num_lt (by omega)]
    rfl
  have h3 : Past.zero.tick.toNat ≤ ev0.tick.toNat := by decide
  simp [writeM, wr, h1, h2, h3]
theorem ev0_r : rdA 4096 [1#8, 3#8, 65#8] Past.zero = (0, [ev0]) := by
  have h : rdE Past.zero [1#8, 3#8, 65#8] = some (ev0, []) := by decide
  rw [show 4096 = 4095 + 1 from rfl, rdA_some (by simp) h, rdA_nil]
theorem awake_spec : Spec Try.prog G 23 [] h (Is (.bool true) h) := by
  have w1 : writeB [ev0] = [1#8, 3#8, 65#8] := by simp [writeB, ev0_w]
  have w2 : writeE [ev0] = 0 := by simp [writeE, ev0_w]
  have r1 : readE [1#8, 3#8, 65#8] = 0 := by rw [readE, ev0_r]
  have r2 : readL [1#8, 3#8, 65#8] = [ev0] := by rw [readL, if_pos r1, ev0_r]
  refine Spec.is C23ok rfl ?_
  simp only [push_cast, simprocAttr, ev0_cells, evts_one]
  refine (Write_spec [ev0] (by simp)).to ?_
  simp only [push_cast, simprocAttr, w1, w2]
  refine (Read_spec [1#8, 3#8, 65#8]).to ?_
  simp only [push_cast, simprocAttr, r1, r2, byt, evts, List.flatMap_cons, List.flatMap_nil, Evt.c2, List.getD_cons_succ, List.getD_cons_zero]
  rfl
theorem lawWrites_spec (l : List Evt) : Spec Try.prog G 9 [evts l] h (Is (.bool true) h) := by
  refine Spec.is C9ok rfl ?_
  simp only [push_cast, simprocAttr, evts]
  refine ⟨fun h1 => ?_, fun h1 => ?_⟩
  · refine awake_spec.to ?_
    simp only [push_cast, simprocAttr]
  · have hl : l.length ≤ 100000000 := by omega
    refine (Write_spec l hl).to ?_
    simp only [push_cast, simprocAttr]
    refine (Size_spec l hl).to ?_
    simp only [push_cast, simprocAttr]
    refine (rWrite_spec l hl).to ?_
    simp only [push_cast, simprocAttr]
    have fin : ∀ Q : AV → Heap → Prop, Q (.bool true) h → Spec Try.prog G 28 [byt (writeB l), byt (writeB l)] h Q := by
      intro Q hq
      refine (SameBytes_spec (writeB l) (writeB l) (by have := writeB_len l; omega)).to (by simpa using hq)
    have rest : ∀ Q : AV → Heap → Prop, Q (.bool true) h → Spec Try.prog G 23 [] h Q := fun Q hq => awake_spec.to hq
    cases l with
    | nil =>
      simp only [push_cast, simprocAttr]
      refine fin _ ?_
      simp only [push_cast, simprocAttr]
      refine rest _ ?_
      simp only [push_cast, simprocAttr]
    | cons e r =>
      have hp : decide ((r.length : Int) + 1 > 0) = true := decide_eq_true (by omega)
      have e1 := flat_part Evt.cells 45 (e :: r) (fun e _ => e.len) 0 (by simp)
      rw [Nat.zero_mul, List.getElem_cons_zero] at e1
      simp only [push_cast, simprocAttr, hp, e1]
      refine ⟨by omega, by omega, (Right_spec e).to ?_⟩
      have p0 : (0 : Int) < r.length + 1 := by omega
      simp only [push_cast, simprocAttr, hp, e1, p0]
      refine (rRight_spec e).to ?_
      have p1 : decide ((0 : Int) < r.length + 1) = true := decide_eq_true p0
      have p2 : (e.right == e.right) = true := by simp
      simp only [push_cast, simprocAttr, hp, e1, p0, p2]
      trace_state
      refine fin _ ?_
      simp only [push_cast, simprocAttr]
      refine rest _ ?_
      simp only [push_cast, simprocAttr]
end Go.Ab
