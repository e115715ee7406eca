/- Contracts: what is wrong with a block, all in all; its size. -/
import Derived.Test.YtjaknpophnolmaaB4
set_option linter.unusedSimpArgs false
set_option linter.unusedVariables false
set_option maxRecDepth 10000
namespace Go.Ab
open Go.Proofs
variable {G : Glo} {h : Heap}
/-- A block whose parts can be numbered. -/
structure IBk.wf (b : IBk) : Prop where
  hp : b.pcs.length ≤ 140737488355328
  ho : b.ops.length ≤ 140737488355328
  he : b.exits.length ≤ 140737488355328
  hm : ∀ e ∈ b.exits, e.map.length ≤ 140737488355328
  hq : b.pcs.length ≤ 1000000000000
  hs : b.ops.length ≤ 1000000000000 ∧ b.exits.length ≤ 1000000000000 ∧ ∀ e ∈ b.exits, e.map.length ≤ 1000000000000
def IBk.pcsR (b : IBk) : Bool := allN b.pcs.length (pcR b.pcs)
theorem odd_spec (x : BitVec 32) : Spec Try.prog G 80 [.int .u32 x.toNat] h (Is (.bool (! decide (x.toNat % 4 = 0))) h) := by
  refine Spec.is C80ok rfl ?_
  simp only [push_cast, simprocAttr]
  congr 1
  rw [Bool.eq_iff_iff, bne_iff_ne, ne_eq, u32_rem]
  simp
theorem indexP_spec (l : List (BitVec 32)) (hl : l.length ≤ 140737488355328) : Spec Try.prog G 94 [.ro (wds l) l.length, .fn 80 [] []] h
    (fun r h' => h = h' ∧ ∃ j : Int, r = .int .i64 j ∧ (decide (j ≥ 0) = ! allN l.length (pcR l))) := by
  refine Spec.drop (Spec.mono (Q := fun r h' => Sub h h' ∧ ∃ j : Int, r = .int .i64 j ∧ (decide (j ≥ 0) = ! allN l.length (pcR l))) ?_ fun r h' hq => ⟨h, hq.1, rfl, hq.2⟩)
  refine Spec.walk C94ok rfl ?_
  simp only [push_cast, simprocAttr]
  refine lpc.rel [0, 1, 7, 8] (fun m ρ h' => ∃ k : Nat, m = l.length - k ∧ k ≤ l.length ∧ h = h' ∧ (∀ i, i < k → pcR l i = true) ∧
    ρ = [(0, .ro (wds l) l.length), (1, .fn 80 [] []), (7, .int .i64 (l.length : Int)), (8, .int .i64 (k : Int))]) ⟨_, 0, rfl, by omega, rfl, by intro i hi; omega, rfl⟩ ?_
  rintro m _ _ ⟨k, rfl, hk, rfl, hall, rfl⟩
  simp only [push_cast, simprocAttr]
  refine ⟨fun hk2 => ⟨hk2, hk2, ⟨_, C80ok.hf, rfl, rfl⟩, (odd_spec _).to ?_⟩, fun hk2 => ?_⟩
  · simp (disch := omega) only [push_cast, simprocAttr, wrap_i64, toNat_ofInt64, Nat.min_eq_left, Int.toNat_of_nonneg]
    refine ⟨fun hv => ?_, fun hv => ?_⟩
    · rw [allN_false k hk2 (by rw [pcR]; simpa using hv)]
      exact ⟨(k : Int), rfl, by simp⟩
    · refine ⟨_, _, by omega, .refl _, k + 1, rfl, by omega, rfl, fun i hi => ?_, rfl⟩
      by_cases hik : i = k
      · subst hik; rw [pcR]; simpa using hv
      · exact hall i (by omega)
  · obtain rfl : k = l.length := by omega
    rw [allN_true hall]
    exact ⟨-1, rfl, rfl⟩
theorem containsP_spec (l : List (BitVec 32)) (hl : l.length ≤ 140737488355328) : Spec Try.prog G 81 [.ro (wds l) l.length, .fn 80 [] []] h (Is (.bool (! allN l.length (pcR l))) h) := by
  refine Spec.is C81ok rfl ?_
  simp only [push_cast, simprocAttr]
  refine (indexP_spec l hl).mono ?_
  rintro _ _ ⟨rfl, j, rfl, hj⟩
  simp only [push_cast, simprocAttr]
  rw [hj]
theorem right_spec (b : IBk) (hw : b.wf) : Spec Try.prog G 65 [.agg [bkP b]] h (Is (.bool b.right) h) := by
  have hp := hw.hp
  have ho := hw.ho
  have he := hw.he
  have hR : b.right = (allN b.ops.length b.opR && allN b.exits.length b.leaves && b.pcsR && decide (0 < b.pcs.length) && b.exit b.last b.ops.length) := rfl
  generalize b.right = R at hR ⊢
  refine Spec.is C65ok rfl ?_
  simp only [push_cast, simprocAttr]
  refine lpc.rel [1, 11, 12] (fun m ρ h' => ∃ k : Nat, m = b.ops.length - k ∧ k ≤ b.ops.length ∧ h = h' ∧ (∀ i, i < k → b.opR i = true) ∧
    ρ = [(1, .cp [bkP b] 0), (11, .int .i64 (b.ops.length : Int)), (12, .int .i64 (k : Int))]) ⟨_, 0, rfl, by omega, rfl, by intro i hi; omega, rfl⟩ ?_
  rintro m _ _ ⟨k, rfl, hk, rfl, hall, rfl⟩
  simp only [push_cast, simprocAttr]
  refine ⟨fun hk2 => (op_spec b k hk2 hw.hm).to ?_, fun hk2 => ?_⟩
  · simp (disch := omega) only [push_cast, simprocAttr, wrap_i64, toNat_ofInt64, Nat.min_eq_left, Int.toNat_of_nonneg]
    refine ⟨fun hv => ?_, fun hv => ?_⟩
    · rw [hR, allN_false k hk2 hv]; rfl
    · refine ⟨_, _, by omega, .refl _, k + 1, rfl, by omega, rfl, fun i hi => ?_, rfl⟩
      by_cases hik : i = k
      · subst hik; exact hv
      · exact hall i (by omega)
  · obtain rfl : k = b.ops.length := by omega
    rw [allN_true hall, Bool.true_and] at hR
    refine lpc.rel [1, 25, 26] (fun m ρ h' => ∃ k : Nat, m = b.exits.length - k ∧ k ≤ b.exits.length ∧ h = h' ∧ (∀ i, i < k → b.leaves i = true) ∧
      ρ = [(1, .cp [bkP b] 0), (25, .int .i64 (b.exits.length : Int)), (26, .int .i64 (k : Int))]) ⟨_, 0, rfl, by omega, rfl, by intro i hi; omega, rfl⟩ ?_
    rintro m _ _ ⟨k, rfl, hk, rfl, hall, rfl⟩
    simp only [push_cast, simprocAttr]
    refine ⟨fun hk2 => (leaves_spec b k hk2 hw.hm).to ?_, fun hk2 => ?_⟩
    · simp (disch := omega) only [push_cast, simprocAttr, wrap_i64, toNat_ofInt64, Nat.min_eq_left, Int.toNat_of_nonneg]
      refine ⟨fun hv => ?_, fun hv => ?_⟩
      · rw [hR, allN_false k hk2 hv]; rfl
      · refine ⟨_, _, by omega, .refl _, k + 1, rfl, by omega, rfl, fun i hi => ?_, rfl⟩
        by_cases hik : i = k
        · subst hik; exact hv
        · exact hall i (by omega)
    · obtain rfl : k = b.exits.length := by omega
      rw [allN_true hall, Bool.true_and] at hR
      by_cases q : (b.pcs.length : Int) > 0
      · simp only [push_cast, simprocAttr, q]
        have q2 : decide (0 < b.pcs.length) = true := decide_eq_true (by omega)
        rw [q2, Bool.and_true] at hR
        refine (containsP_spec b.pcs hp).to ?_
        cases hP : allN b.pcs.length (pcR b.pcs) with
        | true =>
          simp only [push_cast, simprocAttr, q]
          refine (exit_spec b _ _ hw.hm).to ?_
          simp only [push_cast, simprocAttr, q]
          rw [hR, IBk.pcsR, hP]; rfl
        | false =>
          simp only [push_cast, simprocAttr, q]
          rw [hR, IBk.pcsR, hP]; rfl
      · simp only [push_cast, simprocAttr, q]
        rw [hR, decide_eq_false (by omega)]; simp
end Go.Ab
