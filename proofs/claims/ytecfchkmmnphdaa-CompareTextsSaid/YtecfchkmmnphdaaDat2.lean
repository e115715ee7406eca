/- What is known of differences that come in. -/
import Derived.Test.YtecfchkmmnphdaaDat1
import Derived.Test.YtecfchkmmnphdaaT40j
set_option linter.unusedVariables false
namespace Go.Ab
open Go.Proofs
def tdDf : TD := .st [.s, .i .i64, .i .u64, .i .u64]
theorem dat_df {l : List AV} (h : Dat tdDf l) : ∃ e : Df, e.rng ∧ l = e.cells := by
  obtain ⟨_, _, rfl, h1, h⟩ := dat_st_cons h
  obtain ⟨_, _, rfl, h2, h⟩ := dat_st_cons h
  obtain ⟨_, _, rfl, h3, h⟩ := dat_st_cons h
  obtain ⟨_, _, rfl, h4, h⟩ := dat_st_cons h
  obtain rfl := dat_st_nil h
  obtain ⟨a, rfl, _⟩ := dat_s h1
  obtain ⟨b, rfl, rb⟩ := dat_i h2
  obtain ⟨c, rfl, rc⟩ := dat_i h3
  obtain ⟨d, rfl, rd⟩ := dat_i h4
  exact ⟨⟨a, b, c, d⟩, ⟨rb, rc, rd⟩, rfl⟩
theorem dat_dfs {l : List AV} (h : Dat (.sl tdDf) l) : ∃ xs : List Df, (∀ d ∈ xs, d.rng) ∧ l = [dfs xs] := by
  cases h with
  | sl e ls hl h =>
    obtain ⟨xs, h1, h2, h3⟩ := dat_list Df.cells Df.rng (fun l => dat_df) ls h
    exact ⟨xs, h3, by rw [h2, ← h1]; rfl⟩
end Go.Ab
