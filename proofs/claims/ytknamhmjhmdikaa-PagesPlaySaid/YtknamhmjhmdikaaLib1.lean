/- A frame for walks over what values stand for, part Lib1. -/
import Derived.Test.YtknamhmjhmdikaaAb10
namespace Go.Ab
theorem flat_len {α : Type} (f : α → List AV) (n : Nat) (l : List α) (hf : ∀ x ∈ l, (f x).length = n) : (l.flatMap f).length = l.length * n := by
  induction l with
  | nil => simp
  | cons a r ih =>
    simp only [List.flatMap_cons, List.length_append, List.length_cons]
    rw [hf a (by simp), ih fun x hx => hf x (by simp [hx]), Nat.succ_mul, Nat.add_comm]
theorem flat_drop {α : Type} (f : α → List AV) (n : Nat) (l : List α) (hf : ∀ x ∈ l, (f x).length = n) (j : Nat) (hj : j ≤ l.length) : (l.flatMap f).drop (j * n) = (l.drop j).flatMap f := by
  induction j generalizing l with
  | zero => simp
  | succ j ih =>
    cases l with
    | nil => simp at hj
    | cons a r =>
      have ha := hf a (by simp)
      simp only [List.flatMap_cons, List.drop_succ_cons]
      rw [Nat.succ_mul, Nat.add_comm, ← ha, List.drop_length_add_append, ha]
      exact ih r (fun x hx => hf x (by simp [hx])) (by simpa using hj)
theorem flat_part {α : Type} (f : α → List AV) (n : Nat) (l : List α) (hf : ∀ x ∈ l, (f x).length = n) (j : Nat) (hj : j < l.length) : partOf (l.flatMap f) (j * n) (some n) = some (.agg (f l[j])) := by
  have h1 : j * n + n ≤ (l.flatMap f).length := by
    rw [flat_len f n l hf, ← Nat.succ_mul]; exact Nat.mul_le_mul_right _ hj
  simp only [partOf, if_pos h1]
  rw [flat_drop f n l hf j (by omega), List.drop_eq_getElem_cons hj, List.flatMap_cons]
  have := hf l[j] (List.getElem_mem _)
  rw [← this, List.take_left']
  rfl
theorem wrap64_id {x : Int} (h1 : -9223372036854775808 ≤ x) (h2 : x ≤ 9223372036854775807) : IntKind.i64.wrap x = x := by
  unfold IntKind.wrap
  simp only [IntKind.signed, IntKind.bits]
  simp
  omega
end Go.Ab
