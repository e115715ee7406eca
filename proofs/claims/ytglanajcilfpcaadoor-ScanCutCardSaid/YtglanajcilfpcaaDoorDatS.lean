/- What is known of ways that come in. -/
import Derived.Test.YtglanajcilfpcaaDoorDatG
import Derived.Test.YtglanajcilfpcaaDoorH22
set_option linter.unusedVariables false
namespace Go.Ab
def tdWay : TD := .st [.i .u32, .sl .b, .i .i64]
theorem dat_bools {l : List AV} (h : Dat (.sl .b) l) : ∃ xs : List Bool, xs.length ≤ maxLen ∧ l = [.ro (bos xs) xs.length] := by
  cases h with
  | sl e ls hl h =>
    obtain ⟨xs, h1, h2, _⟩ := dat_list (fun x : Bool => [AV.bool x]) (fun _ => True) (fun l hl => by obtain ⟨x, rfl⟩ := dat_b hl; exact ⟨x, trivial, rfl⟩) ls h
    rw [flatMap_one] at h2
    exact ⟨xs, by omega, by rw [h2, ← h1]; rfl⟩
theorem dat_way {l : List AV} (h : Dat tdWay l) : ∃ w : IWay, True ∧ l = w.cells := by
  obtain ⟨_, _, rfl, h1, h⟩ := dat_st_cons h
  obtain ⟨_, _, rfl, h2, h⟩ := dat_st_cons h
  obtain ⟨_, _, rfl, h3, h⟩ := dat_st_cons h
  obtain rfl := dat_st_nil h
  obtain ⟨a, rfl⟩ := dat_u32 h1
  obtain ⟨b, _, rfl⟩ := dat_bools h2
  obtain ⟨c, rfl, _⟩ := dat_i64 h3
  exact ⟨⟨a, b, c⟩, trivial, rfl⟩
end Go.Ab
