/- Contracts: a block, forwarded. -/
import Derived.Test.YtecfchkmmnphdaaB14
set_option linter.unusedSimpArgs false
set_option linter.unusedVariables false
set_option maxRecDepth 10000
namespace Go.Ab
open Go.Proofs
variable {G : Glo} {h : Heap}
theorem fwd_succ (l : List IOp) (k : Nat) (hk : k < l.length) : fwd (l.take (k + 1)) = (fwd (l.take k)).step (l.getD k IOp.zero) := by
  rw [fwd, List.take_add_one, List.foldl_append, ← fwd]
  simp [hk]
theorem fw_to (l : List IOp) : ∀ f : Fw, (l.foldl Fw.step f).to.length = f.to.length + l.length := by
  induction l with
  | nil => intro f; rfl
  | cons o l ih =>
    intro f
    rw [List.foldl_cons, ih]
    have : (f.step o).to.length = f.to.length + 1 := by unfold Fw.step; simp only; split <;> simp
    rw [this, List.length_cons]; omega
theorem fw_l (l : List IOp) : ∀ f : Fw, (l.foldl Fw.step f).l.length ≤ f.l.length + l.length := by
  induction l with
  | nil => intro f; exact Nat.le_refl _
  | cons o l ih =>
    intro f
    rw [List.foldl_cons]
    have := ih (f.step o)
    have : (f.step o).l.length ≤ f.l.length + 1 := by unfold Fw.step; simp only; split <;> simp
    rw [List.length_cons]; omega
theorem fw_st (l : List IOp) : ∀ f : Fw, f.stored < f.l.length → (l.foldl Fw.step f).stored < (l.foldl Fw.step f).l.length := by
  induction l with
  | nil => intro f hf; exact hf
  | cons o l ih =>
    intro f hf
    rw [List.foldl_cons]
    refine ih _ ?_
    unfold Fw.step
    simp only
    split
    · exact hf
    · simp only [List.length_append, List.length_cons, List.length_nil]
      split <;> omega
theorem fwd_to (l : List IOp) : (fwd l).to.length = l.length := by rw [fwd, fw_to]; simp [Fw.init]
theorem fwd_l (l : List IOp) : (fwd l).l.length ≤ l.length := by have := fw_l l Fw.init; rw [show Fw.init.l.length = 0 from rfl, Nat.zero_add] at this; exact this
theorem fwd_st (l : List IOp) : (fwd l).stored < (fwd l).l.length := fw_st l Fw.init (by simp [Fw.init])
theorem val_iff {b : IBk} {n ahead : Int} (h : b.val n ahead = true) : 0 ≤ n ∧ n < ahead ∧ n < b.ops.length := by
  simp only [IBk.val, Bool.and_eq_true, decide_eq_true_eq] at h
  omega
theorem right_parts {b : IBk} (hc : b.check = 0) : (∀ i, i < b.ops.length → b.opR i = true) ∧ (∀ i, i < b.exits.length → b.leaves i = true) := by
  have hr : b.right = true := by
    unfold IBk.check at hc
    split at hc
    · cases hc
    · split at hc
      · assumption
      · cases hc
  simp only [IBk.right, Bool.and_eq_true] at hr
  exact ⟨allN_get hr.1.1.1.1, allN_get hr.1.1.1.2⟩
theorem renOK_of {b : IBk} {k : Nat} (hk : b.opR k = true) {to : List Int} (ht : to.length = k) : renOK to (b.ops.getD k IOp.zero) := by
  rw [opR_eq b k rfl] at hk
  generalize b.ops.getD k IOp.zero = o at hk
  have hv : ∀ n, b.val n (k : Nat) = true → 0 ≤ n ∧ n < to.length := fun n h => by have := val_iff h; omega
  constructor
  · rintro (h | h | h)
    · rw [if_neg (by omega), if_neg (by omega), if_pos h] at hk
      simp only [Bool.and_eq_true] at hk
      exact ⟨hv _ hk.1.2, hv _ hk.2⟩
    · rw [if_neg (by omega), if_neg (by omega), if_neg (by omega), if_neg (by omega), if_pos h] at hk
      simp only [Bool.and_eq_true] at hk
      exact ⟨hv _ hk.1.1.1.2, hv _ hk.1.1.2⟩
    · rw [if_neg (by omega), if_neg (by omega), if_neg (by omega), if_neg (by omega), if_neg (by omega), if_pos h] at hk
      simp only [Bool.and_eq_true] at hk
      exact ⟨hv _ hk.1.1.2, hv _ hk.1.2⟩
  · intro h
    rw [if_neg (by omega), if_neg (by omega), if_neg (by omega), if_pos h] at hk
    simp only [Bool.and_eq_true] at hk
    exact hv _ hk.1.2
theorem exOK_of {b : IBk} {k : Nat} (hk : b.leaves k = true) {to : List Int} (ht : to.length = b.ops.length) : exOK to (b.exits.getD k IEx.zero) := by
  rw [leaves_eq, headN] at hk
  simp only [Bool.and_eq_true] at hk
  have h1 := hk.1.1.1.1.1.1
  simp only [IBk.exit, Bool.and_eq_true, Bool.or_eq_true, decide_eq_true_eq, Int.toNat_natCast] at h1
  obtain ⟨⟨⟨_, _⟩, q1⟩, q2⟩ := h1
  have he : b.ex k = b.exits.getD k IEx.zero := rfl
  rw [he] at q1 q2
  generalize b.exits.getD k IEx.zero = e at q1 q2
  constructor
  · rcases q1 with q | q
    · exact .inl q
    · have := val_iff q; exact .inr (by omega)
  · intro v hv
    obtain ⟨i, hi, rfl⟩ := List.getElem_of_mem hv
    have := val_iff (allN_get q2 i hi)
    have e2 : e.vl i = e.map[i] := by simp [IEx.vl, hi]
    rw [e2] at this
    omega
end Go.Ab
