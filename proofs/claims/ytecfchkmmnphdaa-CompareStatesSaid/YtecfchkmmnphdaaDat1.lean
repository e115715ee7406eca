/- What is known of data of a given type: numbers, rows, events. -/
import Derived.Test.YtecfchkmmnphdaaAb11
import Derived.Test.YtecfchkmmnphdaaT40b
set_option linter.unusedVariables false
namespace Go.Ab
open Go.Proofs
theorem dat_i {k : IntKind} {l : List AV} (h : Dat (.i k) l) : ∃ n, l = [.int k n] ∧ k.min ≤ n ∧ n ≤ k.max := by
  cases h with
  | i k n h => exact ⟨n, rfl, h⟩
theorem dat_b {l : List AV} (h : Dat .b l) : ∃ x, l = [.bool x] := by
  cases h with
  | b x => exact ⟨x, rfl⟩
theorem dat_s {l : List AV} (h : Dat .s l) : ∃ x, l = [.str x] ∧ x.size ≤ maxLen := by
  cases h with
  | s x h => exact ⟨x, rfl, h⟩
theorem dat_list {α : Type} {e : TD} (f : α → List AV) (ok : α → Prop) (one : ∀ l, Dat e l → ∃ x, ok x ∧ l = f x) : ∀ (ls : List (List AV)), (∀ l ∈ ls, Dat e l) →
    ∃ xs : List α, xs.length = ls.length ∧ ls.flatten = xs.flatMap f ∧ ∀ x ∈ xs, ok x := by
  intro ls
  induction ls with
  | nil => intro _; exact ⟨[], rfl, rfl, fun x h => by cases h⟩
  | cons l r ih =>
    intro h
    obtain ⟨x, hx, rfl⟩ := one l (h l (by simp))
    obtain ⟨xs, h1, h2, h3⟩ := ih fun l hl => h l (by simp [hl])
    refine ⟨x :: xs, by simp [h1], by simp [h2], fun y hy => ?_⟩
    rcases List.mem_cons.1 hy with rfl | hy
    · exact hx
    · exact h3 y hy
theorem flatMap_ints (k : IntKind) (l : List Int) : (l.flatMap fun n => [AV.int k n]) = l.map (.int k) := by
  induction l with
  | nil => rfl
  | cons a r ih => simp [ih]
theorem dat_ints {k : IntKind} (ls : List (List AV)) (h : ∀ l ∈ ls, Dat (.i k) l) : ∃ xs : List Int, xs.length = ls.length ∧ ls.flatten = xs.map (.int k) ∧ ∀ x ∈ xs, k.min ≤ x ∧ x ≤ k.max := by
  obtain ⟨xs, h1, h2, h3⟩ := dat_list (fun n => [AV.int k n]) (fun n => k.min ≤ n ∧ n ≤ k.max) (fun l hl => by
    obtain ⟨n, rfl, h⟩ := dat_i hl
    exact ⟨n, h, rfl⟩) ls h
  exact ⟨xs, h1, by rw [h2, flatMap_ints], h3⟩
theorem dat_ar {k : IntKind} {n : Nat} {l : List AV} (h : Dat (.ar n (.i k)) l) : ∃ xs : List Int, xs.length = n ∧ l = xs.map (.int k) ∧ ∀ x ∈ xs, k.min ≤ x ∧ x ≤ k.max := by
  cases h with
  | ar n e ls hl h =>
    obtain ⟨xs, h1, h2, h3⟩ := dat_ints ls h
    exact ⟨xs, by omega, h2, h3⟩
/-- A struct's fields, one after another. -/
theorem dat_st {fs : List TD} {l : List AV} (h : Dat (.st fs) l) : ∃ ls : List (List AV), ls.length = fs.length ∧ l = ls.flatten ∧ ∀ (j : Nat) f l, fs[j]? = some f → ls[j]? = some l → Dat f l := by
  cases h with
  | st fs ls hl h => exact ⟨ls, hl, rfl, h⟩
theorem dat_st_nil {l : List AV} (h : Dat (.st []) l) : l = [] := by
  obtain ⟨ls, h1, rfl, _⟩ := dat_st h
  rw [List.eq_nil_of_length_eq_zero h1]; rfl
theorem dat_st_cons {f : TD} {fs : List TD} {l : List AV} (h : Dat (.st (f :: fs)) l) : ∃ a b, l = a ++ b ∧ Dat f a ∧ Dat (.st fs) b := by
  obtain ⟨ls, h1, rfl, h2⟩ := dat_st h
  cases ls with
  | nil => simp at h1
  | cons a r => exact ⟨a, r.flatten, rfl, h2 0 f a rfl rfl, .st fs r (by simpa using h1) fun j f l x y => h2 (j + 1) f l (by simpa using x) (by simpa using y)⟩
theorem dat_st_ints {k : IntKind} : ∀ (n : Nat) {l : List AV}, Dat (.st (List.replicate n (.i k))) l → ∃ xs : List Int, xs.length = n ∧ l = xs.map (.int k) ∧ ∀ x ∈ xs, k.min ≤ x ∧ x ≤ k.max := by
  intro n
  induction n with
  | zero => intro l h; exact ⟨[], rfl, dat_st_nil h, fun x h => by cases h⟩
  | succ n ih =>
    intro l h
    obtain ⟨a, b, rfl, h1, h2⟩ := dat_st_cons h
    obtain ⟨x, rfl, hx⟩ := dat_i h1
    obtain ⟨xs, h3, rfl, h4⟩ := ih h2
    refine ⟨x :: xs, by simp [h3], by simp, fun y hy => ?_⟩
    rcases List.mem_cons.1 hy with rfl | hy
    · exact hx
    · exact h4 y hy
def tdEv : TD := .st [.i .i64, .i .u64, .i .u32, .i .u32, .i .u32, .i .u32, .ar 32 (.i .u32), .st (List.replicate 7 (.i .u32))]
theorem dat_ev {l : List AV} (h : Dat tdEv l) : ∃ e : Ev, e.ok ∧ l = e.cells := by
  obtain ⟨_, _, rfl, h1, h⟩ := dat_st_cons h
  obtain ⟨_, _, rfl, h2, h⟩ := dat_st_cons h
  obtain ⟨_, _, rfl, h3, h⟩ := dat_st_cons h
  obtain ⟨_, _, rfl, h4, h⟩ := dat_st_cons h
  obtain ⟨_, _, rfl, h5, h⟩ := dat_st_cons h
  obtain ⟨_, _, rfl, h6, h⟩ := dat_st_cons h
  obtain ⟨_, _, rfl, h7, h⟩ := dat_st_cons h
  obtain ⟨_, _, rfl, h8, h⟩ := dat_st_cons h
  obtain rfl := dat_st_nil h
  obtain ⟨a, rfl, _⟩ := dat_i h1
  obtain ⟨b, rfl, _⟩ := dat_i h2
  obtain ⟨c, rfl, _⟩ := dat_i h3
  obtain ⟨d, rfl, _⟩ := dat_i h4
  obtain ⟨e, rfl, _⟩ := dat_i h5
  obtain ⟨f, rfl, _⟩ := dat_i h6
  obtain ⟨g, l7, rfl, _⟩ := dat_ar h7
  obtain ⟨i, l8, rfl, _⟩ := dat_st_ints 7 h8
  exact ⟨⟨a, b, c, d, e, f, g, i⟩, ⟨l7, l8⟩, by simp [Ev.cells, u32s]⟩
theorem dat_evs {l : List AV} (h : Dat (.sl tdEv) l) : ∃ xs : List Ev, (∀ e ∈ xs, e.ok) ∧ xs.length ≤ maxLen ∧ l = [evs xs] := by
  cases h with
  | sl e ls hl h =>
    obtain ⟨xs, h1, h2, h3⟩ := dat_list Ev.cells Ev.ok (fun l => dat_ev) ls h
    exact ⟨xs, h3, by omega, by rw [h2, ← h1]; rfl⟩
end Go.Ab
