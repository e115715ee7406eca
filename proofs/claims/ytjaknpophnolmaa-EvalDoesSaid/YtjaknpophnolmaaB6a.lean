/- Contracts: Check. -/
import Derived.Test.YtjaknpophnolmaaB5
set_option linter.unusedSimpArgs false
set_option linter.unusedVariables false
set_option maxRecDepth 10000
namespace Go.Ab
open Go.Proofs
variable {G : Glo} {h : Heap}
theorem check_long {b : IBk} (h : b.pcs.length > 32 ∨ b.ops.length > 512 ∨ b.exits.length > 128) : b.check = 3 := by
  have : b.long = true := by simp only [IBk.long, Bool.or_eq_true, decide_eq_true_eq]; omega
  rw [IBk.check, if_pos this]
theorem check_short {b : IBk} (h1 : ¬ b.pcs.length > 32) (h2 : ¬ b.ops.length > 512) (h3 : ¬ b.exits.length > 128) : b.check = if b.right then 0 else 1 := by
  have : ¬ b.long = true := by simp only [IBk.long, Bool.or_eq_true, decide_eq_true_eq]; omega
  rw [IBk.check, if_neg this]
theorem Check_spec (b : IBk) (hw : b.wf) : Spec Try.prog G 34 [bkP b] h (Is (.int .i64 b.check) h) := by
  refine Spec.is C34ok rfl ?_
  by_cases g1 : (b.pcs.length : Int) > 32
  · simp only [push_cast, simprocAttr, g1]
    rw [check_long (by omega)]
  · by_cases g2 : (b.ops.length : Int) > 512
    · simp only [push_cast, simprocAttr, g1, g2]
      rw [check_long (by omega)]
    · by_cases g3 : (b.exits.length : Int) > 128
      · simp only [push_cast, simprocAttr, g1, g2, g3]
        rw [check_long (by omega)]
      · simp only [push_cast, simprocAttr, g1, g2, g3]
        refine (right_spec b hw).to ?_
        rw [check_short (by omega) (by omega) (by omega)]
        cases b.right with
        | true => simp only [push_cast, simprocAttr]
        | false => simp only [push_cast, simprocAttr]
theorem rCheck_spec (b : IBk) (hw : b.wf) : Spec Try.prog G 11 [.agg b.cells] h (Is (.int .i64 b.check) h) := by
  have hp := hw.hp
  have ho := hw.ho
  have he := hw.he
  refine Spec.is C11ok rfl ?_
  simp only [push_cast, simprocAttr]
  refine ⟨fun h1 => ?_, fun h1 => ?_⟩
  · rw [check_long (by omega)]
  · rw [check_short (by omega) (by omega) (by omega)]
    have hR : b.right = (allN b.ops.length b.opR && allN b.exits.length b.leaves && allN b.pcs.length (pcR b.pcs) && decide (0 < b.pcs.length) && b.exit b.last b.ops.length) := rfl
    generalize b.right = R at hR ⊢
    refine lpc.rel [1, 3] (fun m ρ h' => ∃ k : Nat, m = b.ops.length - k ∧ k ≤ b.ops.length ∧ h = h' ∧ (∀ i, i < k → b.opR i = true) ∧
      ρ = [(1, .cp b.cells 0), (3, .int .i64 (k : Int))]) ⟨_, 0, rfl, by omega, rfl, by intro i hi; omega, rfl⟩ ?_
    rintro m _ _ ⟨k, rfl, hk, rfl, hall, rfl⟩
    simp only [push_cast, simprocAttr]
    refine ⟨fun hk2 => (rop_spec b k hk2 hw.hm).to ?_, fun hk2 => ?_⟩
    · simp (disch := omega) only [push_cast, simprocAttr, wrap_i64, toNat_ofInt64, Nat.min_eq_left, Int.toNat_of_nonneg]
      refine ⟨fun hv => ?_, fun hv => ?_⟩
      · rw [hR, allN_false k hk2 hv]; rfl
      · refine ⟨_, _, by omega, .refl _, k + 1, rfl, by omega, rfl, fun i hi => ?_, rfl⟩
        by_cases hik : i = k
        · subst hik; exact hv
        · exact hall i (by omega)
    · obtain rfl : k = b.ops.length := by omega
      rw [allN_true hall, Bool.true_and] at hR
      refine lpc.rel [1, 4] (fun m ρ h' => ∃ k : Nat, m = b.exits.length - k ∧ k ≤ b.exits.length ∧ h = h' ∧ (∀ i, i < k → b.leaves i = true) ∧
        ρ = [(1, .cp b.cells 0), (4, .int .i64 (k : Int))]) ⟨_, 0, rfl, by omega, rfl, by intro i hi; omega, rfl⟩ ?_
      rintro m _ _ ⟨k, rfl, hk, rfl, hall, rfl⟩
      simp only [push_cast, simprocAttr]
      refine ⟨fun hk2 => (rleaves_spec b k hk2 hw.hm).to ?_, fun hk2 => ?_⟩
      · simp (disch := omega) only [push_cast, simprocAttr, wrap_i64, toNat_ofInt64, Nat.min_eq_left, Int.toNat_of_nonneg]
        refine ⟨fun hv => ?_, fun hv => ?_⟩
        · rw [hR, allN_false k hk2 hv]; rfl
        · refine ⟨_, _, by omega, .refl _, k + 1, rfl, by omega, rfl, fun i hi => ?_, rfl⟩
          by_cases hik : i = k
          · subst hik; exact hv
          · exact hall i (by omega)
      · obtain rfl : k = b.exits.length := by omega
        rw [allN_true hall, Bool.true_and] at hR
        refine lpc.rel [1, 5] (fun m ρ h' => ∃ k : Nat, m = b.pcs.length - k ∧ k ≤ b.pcs.length ∧ h = h' ∧ (∀ i, i < k → pcR b.pcs i = true) ∧
          ρ = [(1, .cp b.cells 0), (5, .int .i64 (k : Int))]) ⟨_, 0, rfl, by omega, rfl, by intro i hi; omega, rfl⟩ ?_
        rintro m _ _ ⟨k, rfl, hk, rfl, hall, rfl⟩
        by_cases hk2 : k < b.pcs.length
        · cases hv : (((b.pcs.getD k 0#32).toNat : Int).tmod 4 != 0) with
          | true =>
            have hv2 : pcR b.pcs k = false := by
              rw [bne_iff_ne, ne_eq, u32_rem] at hv
              exact decide_eq_false hv
            rw [hR, allN_false k hk2 hv2]
            simp (disch := omega) only [push_cast, simprocAttr, wrap_i64, toNat_ofInt64, Nat.min_eq_left, Int.toNat_of_nonneg, hk2, hv]
          | false =>
            have hv2 : pcR b.pcs k = true := by
              rw [bne_eq_false_iff_eq, u32_rem] at hv
              exact decide_eq_true hv
            simp (disch := omega) only [push_cast, simprocAttr, wrap_i64, toNat_ofInt64, Nat.min_eq_left, Int.toNat_of_nonneg, hk2, hv]
            refine ⟨_, _, by omega, .refl _, k + 1, rfl, by omega, rfl, fun i hi => ?_, rfl⟩
            by_cases hik : i = k
            · subst hik; exact hv2
            · exact hall i (by omega)
        · obtain rfl : k = b.pcs.length := by omega
          rw [allN_true hall, Bool.true_and] at hR
          by_cases h0 : b.pcs.length = 0
          · rw [decide_eq_false (by omega), Bool.false_and] at hR
            simp only [push_cast, simprocAttr, hk2, h0]
            rw [hR]; rfl
          · rw [decide_eq_true (by omega), Bool.true_and] at hR
            simp only [push_cast, simprocAttr, hk2, h0]
            refine ⟨fun _ => (rexit_spec b _ _ hw.hm).to ?_, fun h => by omega⟩
            cases hx : b.exit b.last b.ops.length with
            | true =>
              simp only [push_cast, simprocAttr]
              rw [hR, hx]; rfl
            | false =>
              simp only [push_cast, simprocAttr]
              rw [hR, hx]; rfl
end Go.Ab
