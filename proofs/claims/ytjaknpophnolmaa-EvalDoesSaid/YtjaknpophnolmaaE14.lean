/- The laws of eval: what is right of what is behind a block. -/
import Derived.Test.YtjaknpophnolmaaE13
import Derived.Test.YtjaknpophnolmaaB7
set_option linter.unusedSimpArgs false
set_option linter.unusedVariables false
set_option maxRecDepth 10000
namespace Go.Ab
open Go.Proofs
variable {G : Glo} {h : Heap}
theorem runN_mem (regs : List (BitVec 32)) : ∀ (l : List IOp) (vals : List (BitVec 32)) (M : IRam), (∀ o ∈ l, o.code ≠ 5) → (runN regs l vals M).2.2 = M := by
  intro l
  induction l with
  | nil => intro vals M _; rfl
  | cons o r ih =>
    intro vals M hc
    have h5 := hc o (by simp)
    have hs : (stepN regs o vals M).2.2 = M := by
      unfold stepN
      (repeat' split) <;> first | rfl | (rename_i e; exact absurd e h5) | skip
    simp only [runN]
    split
    · rw [ih _ _ (fun o' ho => hc o' (by simp [ho])), hs]
    · exact hs
theorem runN_exit {b : IBk} (hr : b.right = true) (regs : List (BitVec 32)) : ∀ (n k : Nat) (vals : List (BitVec 32)) (M : IRam), k + n = b.ops.length → ∀ x, (runN regs (b.ops.drop k) vals M).1 = some x → 0 ≤ x ∧ x < b.exits.length := by
  intro n
  induction n with
  | zero =>
    intro k vals M hk x hx
    rw [List.drop_of_length_le (by omega)] at hx
    cases hx
  | succ n ih =>
    intro k vals M hk x hx
    have hk2 : k < b.ops.length := by omega
    have hdr : b.ops.drop k = b.op k :: b.ops.drop (k + 1) := by
      rw [List.drop_eq_getElem_cons hk2]; congr 1; simp [IBk.op, hk2]
    rw [hdr] at hx
    simp only [runN] at hx
    split at hx
    · exact ih (k + 1) _ _ (by omega) x hx
    · rename_i hne
      cases hx
      have := exit_ok (step_exit hr k hk2 regs vals M hne)
      exact this.1
theorem exitOf_ok {b : IBk} (hr : b.right = true) (regs : List (BitVec 32)) (M : IRam) : 0 ≤ b.exitOf regs M ∧ b.exitOf regs M < b.exits.length := by
  have hlast : b.exit b.last b.ops.length = true := by
    simp only [IBk.right, Bool.and_eq_true] at hr
    exact hr.2
  unfold IBk.exitOf
  cases hx : (runN regs b.ops [] M).1 with
  | none => exact (exit_ok hlast).1
  | some x => exact runN_exit hr regs b.ops.length 0 [] M (by omega) x hx
theorem foldR_no (vals : List (BitVec 32)) (m : List IVl) (regs : List (BitVec 32)) (i : Nat) (hp : ∀ v ∈ m, 0 ≤ v.reg) (hn : ∀ v ∈ m, v.reg ≠ i) : (foldR vals m regs).getD i 0#32 = regs.getD i 0#32 := by
  induction m generalizing regs with
  | nil => rfl
  | cons v r ih =>
    have : foldR vals (v :: r) regs = foldR vals r (regs.set v.reg.toNat (lv vals v.val)) := rfl
    rw [this, ih _ (fun u hu => hp u (by simp [hu])) (fun u hu => hn u (by simp [hu]))]
    have h1 := hp v (by simp)
    have h2 := hn v (by simp)
    simp only [List.getD_eq_getElem?_getD, List.getElem?_set]
    rw [if_neg (by omega)]
theorem check_right {b : IBk} (hc : b.check = 0) : b.right = true := by
  unfold IBk.check at hc
  split at hc
  · cases hc
  · split at hc
    · assumption
    · cases hc
theorem map_reg {b : IBk} (hr : b.right = true) {n : Nat} (hn : n < b.exits.length) : ∀ v ∈ (b.ex n).map, 0 ≤ v.reg := by
  intro v hv
  obtain ⟨i, hi, rfl⟩ := List.getElem_of_mem hv
  have := leaves_ok (right_ex hr n hn) i hi
  simp only [IEx.vl, List.getD_eq_getElem?_getD, List.getElem?_eq_getElem hi, Option.getD_some] at this
  omega
theorem oc_reg {regs : List (BitVec 32)} (hl : regs.length = 32) {pc : BitVec 32} {done why exit : Int} (i : Nat) (hi : i < 32) : (outC regs pc done why exit)[i]? = some (.int .u32 ((regs.getD i 0#32).toNat : Int)) := by
  rw [outC, List.getElem?_append_left (by simp [wds, hl]; omega), wds_get, if_pos (by omega)]
theorem oc_at {regs : List (BitVec 32)} (hl : regs.length = 32) {pc : BitVec 32} {done why exit : Int} : (outC regs pc done why exit)[32]? = some (.int .u32 (pc.toNat : Int)) ∧ (outC regs pc done why exit)[33]? = some (.int .i64 done) ∧ (outC regs pc done why exit)[34]? = some (.int .i64 why) ∧ (outC regs pc done why exit)[35]? = some (.int .i64 exit) := by
  have hw : (wds regs).length = 32 := by simp [wds, hl]
  refine ⟨?_, ?_, ?_, ?_⟩ <;> (rw [outC, List.getElem?_append_right (by omega), hw]; rfl)
end Go.Ab
