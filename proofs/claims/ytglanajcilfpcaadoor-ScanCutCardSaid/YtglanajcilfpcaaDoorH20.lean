/- Rows begin the path without turns. -/
import Derived.Test.YtglanajcilfpcaaDoorH17
set_option linter.unusedSimpArgs false
set_option linter.unusedVariables false
set_option maxRecDepth 10000
namespace Go.Ab
open Go.Proofs
theorem can_ends {w : BitVec 32} {n : Nat} (hc : canN w n = true) (h3 : n ≠ 3) (h4 : n ≠ 4) (hb : brN n = false) : endsN n = false := by
  rw [canN, if_neg h3, if_neg h4, hb, if_neg (by simp)] at hc
  simpa using hc
theorem br_ends {n : Nat} (hb : brN n = true) : endsN n = true := by
  simp only [brN, Bool.and_eq_true, decide_eq_true_eq] at hb
  have h1 : 3 ≤ n := by omega
  simp [endsN, h1, hb.2]
theorem walk_0 (f M) (pc : BitVec 32) (T : List Bool) : walkN f M 0 pc T = [] := rfl
theorem walk_no {f M} {k : Nat} {pc : BitVec 32} {T : List Bool} (ho : okAt M pc = false) : walkN f M k pc T = [] := by
  cases k with
  | zero => rfl
  | succ k => rw [walkN, ho, if_neg (by simp)]
theorem walk_S {f M} {k : Nat} {pc : BitVec 32} {T : List Bool} (ho : okAt M pc = true) {b : Bool} {x : IIt} {U : List Bool} (hf : f (itemN (wordN M pc) pc) (kindK (wordN M pc)) T = (b, x, U)) : walkN f M (k + 1) pc T = x :: if b then walkN f M k x.next U else [] := by
  rw [walkN, ho, if_pos rfl]
  simp only [hf]
theorem rowOn_eq (x : IIt) (n : Nat) (T : List Bool) : rowOn x n T = (!endsN n, x, T) := rfl
theorem pathOn_br (x : IIt) {n : Nat} (hb : brN n = true) : pathOn x n [] = (false, x, []) := by unfold pathOn; rw [if_neg (by rw [hb]; simp)]
theorem pathOn_no (x : IIt) {n : Nat} (hb : brN n = false) (T : List Bool) : pathOn x n T = (decide (n ≠ 4), x, T) := by unfold pathOn; rw [if_pos hb]
theorem item_op (M : IRam) (pc : BitVec 32) : (itemN (wordN M pc) pc).i.op = kindK (wordN M pc) := by rw [itemN, dec_laid]; rfl
theorem row_path (M : IRam) : ∀ (k : Nat) (pc : BitVec 32), ∃ t, walkN pathOn M k pc [] = walkN rowOn M k pc [] ++ t ∧ (t = [] ∨ ∃ a x, walkN rowOn M k pc [] = a ++ [x] ∧ x.i.op = 3) := by
  intro k
  induction k with
  | zero => intro pc; exact ⟨[], rfl, .inl rfl⟩
  | succ k ih =>
    intro pc
    cases ho : okAt M pc with
    | false => rw [walk_no ho, walk_no ho]; exact ⟨[], rfl, .inl rfl⟩
    | true =>
      have hc : canN (wordN M pc) (kindK (wordN M pc)) = true := by
        unfold okAt at ho
        simp only [Bool.and_eq_true] at ho
        exact ho.2
      have hop := item_op M pc
      rw [walk_S ho (rowOn_eq _ _ _)]
      cases hb : brN (kindK (wordN M pc)) with
      | true =>
        rw [walk_S ho (pathOn_br _ hb), br_ends hb]
        exact ⟨[], rfl, .inl rfl⟩
      | false =>
        rw [walk_S ho (pathOn_no _ hb _)]
        by_cases h4 : kindK (wordN M pc) = 4
        · have : endsN 4 = true := by decide
          rw [h4, this]
          exact ⟨[], rfl, .inl rfl⟩
        · rw [decide_eq_true h4, if_pos rfl]
          by_cases h3 : kindK (wordN M pc) = 3
          · have : endsN 3 = true := by decide
            rw [h3, this]
            exact ⟨_, rfl, .inr ⟨[], _, rfl, by rw [hop, h3]; rfl⟩⟩
          · rw [can_ends hc h3 h4 hb]
            obtain ⟨t, h1, h2⟩ := ih (itemN (wordN M pc) pc).next
            refine ⟨t, by rw [h1]; rfl, ?_⟩
            rcases h2 with h2 | ⟨a, x, h2, h5⟩
            · exact .inl h2
            · exact .inr ⟨_ :: a, x, by rw [h2]; rfl, h5⟩
theorem walk_len (f M) : ∀ (k : Nat) (pc : BitVec 32) (T : List Bool), (walkN f M k pc T).length ≤ k := by
  intro k
  induction k with
  | zero => intro pc T; exact Nat.le_refl _
  | succ k ih =>
    intro pc T
    cases ho : okAt M pc with
    | false => rw [walk_no ho]; simp
    | true =>
      rw [walkN, ho, if_pos rfl]
      simp only [List.length_cons]
      split
      · have := ih (f (itemN (wordN M pc) pc) (kindK (wordN M pc)) T).2.1.next (f (itemN (wordN M pc) pc) (kindK (wordN M pc)) T).2.2
        omega
      · simp
end Go.Ab
