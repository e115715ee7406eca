/- Contract: are two machines the same? -/
import Derived.Test.YtecfchkmmnphdaaT40n
set_option linter.unusedSimpArgs false
set_option linter.unusedVariables false
namespace Go.Ab
open Go.Proofs
variable {G : Glo} {h : Heap}
theorem cpu_pc (a : St) : a.cpu[0]? = some (.int .u32 a.pc) := rfl
theorem cpu_tail {a : St} (ok : a.wf) (k : Nat) : a.cpu[40 + k]? = a.ctail[k]? := by
  have : 40 + k = 1 + (32 + (7 + k)) := by omega
  rw [this, Nat.add_comm 1]
  simp only [St.cpu, List.getElem?_cons_succ]
  rw [List.getElem?_append_right (by rw [u32s_len, ok.regs]; omega), u32s_len, ok.regs, Nat.add_sub_cancel_left, List.getElem?_append_right (by rw [u32s_len, ok.kept]; omega), u32s_len, ok.kept, Nat.add_sub_cancel_left]
theorem cpu_len {a : St} (ok : a.wf) : a.cpu.length = 56 := by
  simp [St.cpu, u32s_len, ok.regs, ok.kept, St.ctail]
theorem cpu_drop {a : St} (ok : a.wf) (k : Nat) : a.cpu.drop (40 + k) = a.ctail.drop k := by
  apply List.ext_getElem?
  intro i
  rw [List.getElem?_drop, List.getElem?_drop, Nat.add_assoc, cpu_tail ok]
theorem cpu_regs {a : St} (ok : a.wf) : partOf a.cpu 1 (some 32) = some (.agg (u32s a.regs)) := by
  simp only [partOf, cpu_len ok]
  rw [if_pos (by decide)]
  congr 2
  simp only [St.cpu, List.drop_succ_cons, List.drop_zero]
  rw [List.take_append, List.take_of_length_le (by rw [u32s_len, ok.regs]; exact Nat.le_refl _), u32s_len, ok.regs]
  simp
theorem cpu_file {a : St} (ok : a.wf) : partOf a.cpu 33 (some 9) = some (.agg (u32s a.kept ++ [.int .u64 a.cycles, .int .u64 a.instrs])) := by
  simp only [partOf, cpu_len ok]
  rw [if_pos (by decide)]
  congr 2
  simp only [St.cpu, List.drop_succ_cons]
  rw [List.drop_append, List.drop_eq_nil_of_le (by rw [u32s_len, ok.regs]; exact Nat.le_refl _), List.nil_append, u32s_len, ok.regs, Nat.sub_self, List.drop_zero, List.take_append, List.take_of_length_le (by rw [u32s_len, ok.kept]; omega), u32s_len, ok.kept]
  rfl
theorem cpu_kept {a : St} (ok : a.wf) : partOf a.cpu 33 (some 7) = some (.agg (u32s a.kept)) := by
  simp only [partOf, cpu_len ok]
  rw [if_pos (by decide)]
  congr 2
  simp only [St.cpu, List.drop_succ_cons]
  rw [List.drop_append, List.drop_eq_nil_of_le (by rw [u32s_len, ok.regs]; exact Nat.le_refl _), List.nil_append, u32s_len, ok.regs, Nat.sub_self, List.drop_zero, List.take_append, List.take_of_length_le (by rw [u32s_len, ok.kept]; omega), u32s_len, ok.kept]
  simp
theorem cpu_timer {a : St} (ok : a.wf) : partOf a.cpu 50 (some 3) = some (.agg [.int .u64 a.offset, .int .u64 a.mark, .bool a.soft]) := by
  simp only [partOf, cpu_len ok]
  rw [if_pos (by decide), show (50 : Nat) = 40 + 10 from rfl, cpu_drop ok]
  rfl
theorem cpu_console {a : St} (ok : a.wf) : partOf a.cpu 45 (some 5) = some (.agg [.nils, .int .i64 a.came, byt a.rx, .bool a.over, byt a.out]) := by
  simp only [partOf, cpu_len ok]
  rw [if_pos (by decide), show (45 : Nat) = 40 + 5 from rfl, cpu_drop ok]
  rfl
theorem cpu_reg {a : St} (ok : a.wf) {k : Nat} (hk : k < 32) : a.cpu[1 + k]? = some (.int .u32 (ri a.regs k)) := by
  have hk' : k < a.regs.length := by rw [ok.regs]; exact hk
  rw [Nat.add_comm]
  simp only [St.cpu, List.getElem?_cons_succ]
  rw [List.getElem?_append_left (by rw [u32s_len]; exact hk')]
  simp [u32s, ri, hk']
theorem regs_eq {xs ys : List Int} (hx : xs.length = 32) (hy : ys.length = 32) (neg : Bool) : aeq neg [.i, .i, .i, .i, .i, .i, .i, .i, .i, .i, .i, .i, .i, .i, .i, .i, .i, .i, .i, .i, .i, .i, .i, .i, .i, .i, .i, .i, .i, .i, .i, .i] (.agg (u32s xs)) (.agg (u32s ys)) = some (.bool (decide (xs = ys) != neg)) := by
  have := cellsEq_u32 xs ys _ rfl (by rw [hx, hy])
  rw [hx] at this
  simp only [aeq]
  refine (congrArg (Option.map _) this).trans ?_
  rfl
theorem file_eq {xs ys : List Int} (hx : xs.length = 7) (hy : ys.length = 7) (a b c d : Int) (neg : Bool) : aeq neg [.i, .i, .i, .i, .i, .i, .i, .i, .i] (.agg (u32s xs ++ [.int .u64 a, .int .u64 b])) (.agg (u32s ys ++ [.int .u64 c, .int .u64 d])) = some (.bool (decide (xs = ys ∧ a = c ∧ b = d) != neg)) := by
  have h1 := cellsEq_u32 xs ys _ rfl (by rw [hx, hy])
  have h2 := cellsEq_join _ [.i, .i] _ _ [.int .u64 a, .int .u64 b] [.int .u64 c, .int .u64 d] _ _ h1 rfl
  rw [hx] at h2
  simp only [aeq]
  refine (congrArg (Option.map _) h2).trans ?_
  simp only [Option.map_some]
  congr 3
  rw [Bool.eq_iff_iff]
  simp
theorem timer_eq (a b : Int) (c : Bool) (a' b' : Int) (c' neg : Bool) : aeq neg [.i, .i, .b] (.agg [.int .u64 a, .int .u64 b, .bool c]) (.agg [.int .u64 a', .int .u64 b', .bool c']) = some (.bool (decide (a = a' ∧ b = b' ∧ c = c') != neg)) := by
  simp only [aeq, cellsEq, if_true, Option.map_some]
  congr 3
  rw [Bool.eq_iff_iff]
  simp
theorem cpu40 {a : St} (ok : a.wf) : a.cpu[40]? = some (.int .u64 a.cycles) := cpu_tail ok 0
theorem cpu41 {a : St} (ok : a.wf) : a.cpu[41]? = some (.int .u64 a.instrs) := cpu_tail ok 1
theorem cpu42 {a : St} (ok : a.wf) : a.cpu[42]? = some (.int .u64 a.tick) := cpu_tail ok 2
theorem cpu43 {a : St} (ok : a.wf) : a.cpu[43]? = some (.int .u64 a.retired) := cpu_tail ok 3
theorem cpu44 {a : St} (ok : a.wf) : a.cpu[44]? = some (byt a.ram) := cpu_tail ok 4
theorem cpu45 {a : St} (ok : a.wf) : a.cpu[45]? = some (.nils) := cpu_tail ok 5
theorem cpu46 {a : St} (ok : a.wf) : a.cpu[46]? = some (.int .i64 a.came) := cpu_tail ok 6
theorem cpu47 {a : St} (ok : a.wf) : a.cpu[47]? = some (byt a.rx) := cpu_tail ok 7
theorem cpu48 {a : St} (ok : a.wf) : a.cpu[48]? = some (.bool a.over) := cpu_tail ok 8
theorem cpu49 {a : St} (ok : a.wf) : a.cpu[49]? = some (byt a.out) := cpu_tail ok 9
theorem cpu50 {a : St} (ok : a.wf) : a.cpu[50]? = some (.int .u64 a.offset) := cpu_tail ok 10
theorem cpu51 {a : St} (ok : a.wf) : a.cpu[51]? = some (.int .u64 a.mark) := cpu_tail ok 11
theorem cpu52 {a : St} (ok : a.wf) : a.cpu[52]? = some (.bool a.soft) := cpu_tail ok 12
theorem cpu53 {a : St} (ok : a.wf) : a.cpu[53]? = some (.bool a.off) := cpu_tail ok 13
theorem cpu54 {a : St} (ok : a.wf) : a.cpu[54]? = some (.int .u32 a.code) := cpu_tail ok 14
theorem cpu55 {a : St} (ok : a.wf) : a.cpu[55]? = some (evs a.events) := cpu_tail ok 15
end Go.Ab
