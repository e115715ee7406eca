/- What is known of numbers, and steps, that come in. -/
import Derived.Test.YtknamhmjhmdikaaDatG
import Derived.Test.YtknamhmjhmdikaaK11
set_option linter.unusedVariables false
namespace Go.Ab
theorem dat_n {l : List AV} (h : Dat (.i .i64) l) : ∃ n : Int, i64R n ∧ l = [.int .i64 n] := by
  obtain ⟨n, rfl, h1, h2⟩ := dat_i64 h
  exact ⟨n, ⟨h1, by omega⟩, rfl⟩
theorem dat_zs {l : List AV} (h : Dat (.sl (.i .i64)) l) : ∃ xs : List Int, (∀ x ∈ xs, i64R x) ∧ l = [zr xs] := by
  obtain ⟨xs, h1, _, h2⟩ := dat_sl (fun n : Int => [AV.int .i64 n]) (fun n => i64R n) (fun l hl => dat_n hl) h
  rw [flatMap_one] at h2
  exact ⟨xs, h1, h2⟩
theorem dat_bs {l : List AV} (h : Dat (.sl .b) l) : ∃ xs : List Bool, l = [.ro (xs.map AV.bool) xs.length] := by
  obtain ⟨xs, h1, _, h2⟩ := dat_sl (fun n : Bool => [AV.bool n]) (fun _ => True) (fun l hl => by obtain ⟨x, rfl⟩ := dat_b hl; exact ⟨x, trivial, rfl⟩) h
  rw [flatMap_one] at h2
  exact ⟨xs, h2⟩
structure ISp where
  kind : Int
  id : Int
  pages : List Int
  wt : List Bool
def ISp.cells (s : ISp) : List AV := [.int .i64 s.kind, .int .i64 s.id, zr s.pages, .ro (s.wt.map AV.bool) s.wt.length]
def ISp.ok (s : ISp) : Prop := i64R s.id ∧ ∀ x ∈ s.pages, i64R x
abbrev sps (l : List ISp) : AV := .ro (l.flatMap ISp.cells) l.length
abbrev tdSp : TD := .st [.i .i64, .i .i64, .sl (.i .i64), .sl .b]
theorem dat_sp {l : List AV} (h : Dat tdSp l) : ∃ s : ISp, s.ok ∧ l = s.cells := by
  obtain ⟨_, _, rfl, h1, h⟩ := dat_st_cons h
  obtain ⟨_, _, rfl, h2, h⟩ := dat_st_cons h
  obtain ⟨_, _, rfl, h3, h⟩ := dat_st_cons h
  obtain ⟨_, _, rfl, h4, h⟩ := dat_st_cons h
  obtain rfl := dat_st_nil h
  obtain ⟨a, _, rfl⟩ := dat_n h1
  obtain ⟨b, hb, rfl⟩ := dat_n h2
  obtain ⟨c, hc, rfl⟩ := dat_zs h3
  obtain ⟨d, rfl⟩ := dat_bs h4
  exact ⟨⟨a, b, c, d⟩, ⟨hb, hc⟩, rfl⟩
theorem dat_sps {l : List AV} (h : Dat (.sl tdSp) l) : ∃ xs : List ISp, (∀ x ∈ xs, x.ok) ∧ l = [sps xs] := by
  obtain ⟨xs, h1, _, h2⟩ := dat_sl ISp.cells ISp.ok (fun l hl => dat_sp hl) h
  exact ⟨xs, h1, h2⟩
@[push_cast] theorem ISp.len (s : ISp) : s.cells.length = 4 := rfl
end Go.Ab
