/- What is known of blocks that come in. -/
import Derived.Test.YtjaknpophnolmaaDatG
import Derived.Test.YtjaknpophnolmaaB1
set_option linter.unusedVariables false
namespace Go.Ab
def tdOp : TD := .st [.i .i64, .i .i64, .i .i64, .i .u32, .i .i64, .i .i64]
def tdVl : TD := .st [.i .i64, .i .i64]
def tdEx : TD := .st [.i .i64, .i .u32, .i .i64, .i .i64, .sl tdVl]
def tdBk : TD := .st [.sl (.i .u32), .sl tdOp, .sl tdEx, .i .i64]
theorem dat_op {l : List AV} (h : Dat tdOp l) : ∃ o : IOp, True ∧ l = o.cells := by
  obtain ⟨_, _, rfl, h1, h⟩ := dat_st_cons h
  obtain ⟨_, _, rfl, h2, h⟩ := dat_st_cons h
  obtain ⟨_, _, rfl, h3, h⟩ := dat_st_cons h
  obtain ⟨_, _, rfl, h4, h⟩ := dat_st_cons h
  obtain ⟨_, _, rfl, h5, h⟩ := dat_st_cons h
  obtain ⟨_, _, rfl, h6, h⟩ := dat_st_cons h
  obtain rfl := dat_st_nil h
  obtain ⟨a, rfl, _⟩ := dat_i64 h1
  obtain ⟨b, rfl, _⟩ := dat_i64 h2
  obtain ⟨c, rfl, _⟩ := dat_i64 h3
  obtain ⟨d, rfl⟩ := dat_u32 h4
  obtain ⟨e, rfl, _⟩ := dat_i64 h5
  obtain ⟨f, rfl, _⟩ := dat_i64 h6
  exact ⟨⟨a, b, c, d, e, f⟩, trivial, rfl⟩
theorem dat_vl {l : List AV} (h : Dat tdVl l) : ∃ v : IVl, True ∧ l = v.cells := by
  obtain ⟨_, _, rfl, h1, h⟩ := dat_st_cons h
  obtain ⟨_, _, rfl, h2, h⟩ := dat_st_cons h
  obtain rfl := dat_st_nil h
  obtain ⟨a, rfl, _⟩ := dat_i64 h1
  obtain ⟨b, rfl, _⟩ := dat_i64 h2
  exact ⟨⟨a, b⟩, trivial, rfl⟩
theorem dat_ex {l : List AV} (h : Dat tdEx l) : ∃ e : IEx, True ∧ l = e.cells := by
  obtain ⟨_, _, rfl, h1, h⟩ := dat_st_cons h
  obtain ⟨_, _, rfl, h2, h⟩ := dat_st_cons h
  obtain ⟨_, _, rfl, h3, h⟩ := dat_st_cons h
  obtain ⟨_, _, rfl, h4, h⟩ := dat_st_cons h
  obtain ⟨_, _, rfl, h5, h⟩ := dat_st_cons h
  obtain rfl := dat_st_nil h
  obtain ⟨a, rfl, _⟩ := dat_i64 h1
  obtain ⟨b, rfl⟩ := dat_u32 h2
  obtain ⟨c, rfl, _⟩ := dat_i64 h3
  obtain ⟨d, rfl, _⟩ := dat_i64 h4
  obtain ⟨m, _, _, rfl⟩ := dat_sl IVl.cells (fun _ => True) (fun l => dat_vl) h5
  exact ⟨⟨a, b, c, d, m⟩, trivial, rfl⟩
theorem dat_bk {l : List AV} (h : Dat tdBk l) : ∃ b : IBk, b.exits.length ≤ maxLen ∧ l = b.cells := by
  obtain ⟨_, _, rfl, h1, h⟩ := dat_st_cons h
  obtain ⟨_, _, rfl, h2, h⟩ := dat_st_cons h
  obtain ⟨_, _, rfl, h3, h⟩ := dat_st_cons h
  obtain ⟨_, _, rfl, h4, h⟩ := dat_st_cons h
  obtain rfl := dat_st_nil h
  obtain ⟨p, _, rfl⟩ := dat_words h1
  obtain ⟨o, _, _, rfl⟩ := dat_sl IOp.cells (fun _ => True) (fun l => dat_op) h2
  obtain ⟨e, _, he, rfl⟩ := dat_sl IEx.cells (fun _ => True) (fun l => dat_ex) h3
  obtain ⟨a, rfl, _⟩ := dat_i64 h4
  exact ⟨⟨p, o, e, a⟩, he, rfl⟩
end Go.Ab
