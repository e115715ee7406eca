/- What is known of worlds that come in. -/
import Derived.Test.YtjaknpophnolmaaDatB0
import Derived.Test.YtjaknpophnolmaaE10
set_option linter.unusedVariables false
namespace Go.Ab
def tdWd : TD := .st [.ar 32 (.i .u32), .i .i64, .sl (.i .u8), .i .u16]
theorem dat_wd {l : List AV} (h : Dat tdWd l) : ∃ w : IWd, w.regs.length = 32 ∧ l = w.cells := by
  obtain ⟨_, _, rfl, h1, h⟩ := dat_st_cons h
  obtain ⟨_, _, rfl, h2, h⟩ := dat_st_cons h
  obtain ⟨_, _, rfl, h3, h⟩ := dat_st_cons h
  obtain ⟨_, _, rfl, h4, h⟩ := dat_st_cons h
  obtain rfl := dat_st_nil h
  obtain ⟨r, hr, rfl⟩ := dat_ar32 h1
  obtain ⟨s, rfl, _⟩ := dat_i64 h2
  obtain ⟨b, _, rfl⟩ := dat_bytes h3
  obtain ⟨w, rfl⟩ := dat_u16 h4
  exact ⟨⟨r, s, b, w⟩, hr, rfl⟩
end Go.Ab
