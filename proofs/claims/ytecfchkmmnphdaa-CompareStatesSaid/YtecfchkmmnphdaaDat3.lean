/- What is known of a state that comes in. -/
import Derived.Test.YtecfchkmmnphdaaDat1
import Derived.Test.YtecfchkmmnphdaaT40u
set_option linter.unusedVariables false
namespace Go.Ab
open Go.Proofs
def tdB : TD := .sl (.i .u8)
def tdSt : TD := .st [.i .u32, .ar 32 (.i .u32), .st [.st (List.replicate 7 (.i .u32)), .i .u64, .i .u64], .i .u64, .i .u64, tdB, tdB, tdB, .b, .i .i64, .st [.i .u64, .i .u64, .b], .b, .i .u32, .sl tdEv]
theorem dat_byt {l : List AV} (h : Dat tdB l) : ∃ xs : List Int, (∀ x ∈ xs, u8ok x) ∧ l = [byt xs] := by
  cases h with
  | sl e ls hl h =>
    obtain ⟨xs, h1, h2, h3⟩ := dat_ints ls h
    exact ⟨xs, h3, by rw [h2, ← h1]; rfl⟩
theorem dat_state {l : List AV} (h : Dat tdSt l) : ∃ a : St, a.wf ∧ (-9223372036854775808 ≤ a.came ∧ a.came ≤ 9223372036854775807) ∧ l = a.cells := by
  obtain ⟨_, _, rfl, h0, h⟩ := dat_st_cons h
  obtain ⟨_, _, rfl, h1, h⟩ := dat_st_cons h
  obtain ⟨_, _, rfl, h2, h⟩ := dat_st_cons h
  obtain ⟨_, _, rfl, h3, h⟩ := dat_st_cons h
  obtain ⟨_, _, rfl, h4, h⟩ := dat_st_cons h
  obtain ⟨_, _, rfl, h5, h⟩ := dat_st_cons h
  obtain ⟨_, _, rfl, h6, h⟩ := dat_st_cons h
  obtain ⟨_, _, rfl, h7, h⟩ := dat_st_cons h
  obtain ⟨_, _, rfl, h8, h⟩ := dat_st_cons h
  obtain ⟨_, _, rfl, h9, h⟩ := dat_st_cons h
  obtain ⟨_, _, rfl, h10, h⟩ := dat_st_cons h
  obtain ⟨_, _, rfl, h11, h⟩ := dat_st_cons h
  obtain ⟨_, _, rfl, h12, h⟩ := dat_st_cons h
  obtain ⟨_, _, rfl, h13, h⟩ := dat_st_cons h
  obtain rfl := dat_st_nil h
  obtain ⟨pc, rfl, rpc⟩ := dat_i h0
  obtain ⟨regs, l1, rfl, rregs⟩ := dat_ar h1
  obtain ⟨_, _, rfl, g1, h2⟩ := dat_st_cons h2
  obtain ⟨_, _, rfl, g2, h2⟩ := dat_st_cons h2
  obtain ⟨_, _, rfl, g3, h2⟩ := dat_st_cons h2
  obtain rfl := dat_st_nil h2
  obtain ⟨kept, l2, rfl, rkept⟩ := dat_st_ints 7 g1
  obtain ⟨cycles, rfl, _⟩ := dat_i g2
  obtain ⟨instrs, rfl, _⟩ := dat_i g3
  obtain ⟨tick, rfl, _⟩ := dat_i h3
  obtain ⟨retired, rfl, _⟩ := dat_i h4
  obtain ⟨ram, ram8, rfl⟩ := dat_byt h5
  obtain ⟨rx, rx8, rfl⟩ := dat_byt h6
  obtain ⟨out, out8, rfl⟩ := dat_byt h7
  obtain ⟨over, rfl⟩ := dat_b h8
  obtain ⟨came, rfl, rcame⟩ := dat_i h9
  obtain ⟨_, _, rfl, g1, h10⟩ := dat_st_cons h10
  obtain ⟨_, _, rfl, g2, h10⟩ := dat_st_cons h10
  obtain ⟨_, _, rfl, g3, h10⟩ := dat_st_cons h10
  obtain rfl := dat_st_nil h10
  obtain ⟨offset, rfl, _⟩ := dat_i g1
  obtain ⟨mark, rfl, _⟩ := dat_i g2
  obtain ⟨soft, rfl⟩ := dat_b g3
  obtain ⟨off, rfl⟩ := dat_b h11
  obtain ⟨code, rfl, rcode⟩ := dat_i h12
  obtain ⟨events, eok, _, rfl⟩ := dat_evs h13
  exact ⟨⟨pc, regs, kept, cycles, instrs, tick, retired, ram, rx, out, over, came, offset, mark, soft, off, code, events⟩, ⟨l1, l2, rpc, rregs, rkept, rcode, ram8, rx8, out8, eok⟩, rcame, by simp [St.cells, St.tail, u32s]⟩
end Go.Ab
