/- What is known of events that come in. -/
import Derived.Test.YtecfchkmmnphdaaDatG
import Derived.Test.YtecfchkmmnphdaaR6
import Derived.Test.YtecfchkmmnphdaaRn
set_option linter.unusedVariables false
namespace Go.Ab
open Go.Proofs
def tdEvt : TD := .st [.i .i64, .i .u64, .i .u32, .i .u32, .i .u32, .i .u32, .ar 32 (.i .u32), .st [.i .u32, .i .u32, .i .u32, .i .u32, .i .u32, .i .u32, .i .u32]]
theorem dat_kp {l : List AV} (h : Dat (.st [.i .u32, .i .u32, .i .u32, .i .u32, .i .u32, .i .u32, .i .u32]) l) : ∃ k : Kp, l = wds k.l := by
  obtain ⟨_, _, rfl, h1, h⟩ := dat_st_cons h
  obtain ⟨_, _, rfl, h2, h⟩ := dat_st_cons h
  obtain ⟨_, _, rfl, h3, h⟩ := dat_st_cons h
  obtain ⟨_, _, rfl, h4, h⟩ := dat_st_cons h
  obtain ⟨_, _, rfl, h5, h⟩ := dat_st_cons h
  obtain ⟨_, _, rfl, h6, h⟩ := dat_st_cons h
  obtain ⟨_, _, rfl, h7, h⟩ := dat_st_cons h
  obtain rfl := dat_st_nil h
  obtain ⟨a, rfl⟩ := dat_u32 h1
  obtain ⟨b, rfl⟩ := dat_u32 h2
  obtain ⟨c, rfl⟩ := dat_u32 h3
  obtain ⟨d, rfl⟩ := dat_u32 h4
  obtain ⟨e, rfl⟩ := dat_u32 h5
  obtain ⟨f, rfl⟩ := dat_u32 h6
  obtain ⟨g, rfl⟩ := dat_u32 h7
  exact ⟨⟨a, b, c, d, e, f, g⟩, rfl⟩
theorem dat_evt {l : List AV} (h : Dat tdEvt l) : ∃ e : Evt, True ∧ l = e.cells := by
  obtain ⟨_, _, rfl, h1, h⟩ := dat_st_cons h
  obtain ⟨_, _, rfl, h2, h⟩ := dat_st_cons h
  obtain ⟨_, _, rfl, h3, h⟩ := dat_st_cons h
  obtain ⟨_, _, rfl, h4, h⟩ := dat_st_cons h
  obtain ⟨_, _, rfl, h5, h⟩ := dat_st_cons h
  obtain ⟨_, _, rfl, h6, h⟩ := dat_st_cons h
  obtain ⟨_, _, rfl, h7, h⟩ := dat_st_cons h
  obtain ⟨_, _, rfl, h8, h⟩ := dat_st_cons h
  obtain rfl := dat_st_nil h
  obtain ⟨a, rfl, _⟩ := dat_i64 h1
  obtain ⟨b, rfl⟩ := dat_u64 h2
  obtain ⟨c, rfl⟩ := dat_u32 h3
  obtain ⟨d, rfl⟩ := dat_u32 h4
  obtain ⟨e, rfl⟩ := dat_u32 h5
  obtain ⟨f, rfl⟩ := dat_u32 h6
  obtain ⟨g, l7, rfl⟩ := dat_ar32 h7
  obtain ⟨k, rfl⟩ := dat_kp h8
  exact ⟨⟨a, b, c, d, e, f, Rg.of g, k⟩, trivial, by simp [Evt.cells, Rg.of_l g l7]⟩
theorem dat_evts {l : List AV} (h : Dat (.sl tdEvt) l) : ∃ xs : List Evt, xs.length ≤ maxLen ∧ l = [evts xs] := by
  obtain ⟨xs, _, h1, h2⟩ := dat_sl Evt.cells (fun _ => True) (fun l => dat_evt) h
  exact ⟨xs, h1, h2⟩
end Go.Ab
