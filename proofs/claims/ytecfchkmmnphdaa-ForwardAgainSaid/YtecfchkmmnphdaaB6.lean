/- Contracts: Check, Size, light, Least. -/
import Derived.Test.YtecfchkmmnphdaaB5
set_option linter.unusedSimpArgs false
set_option linter.unusedVariables false
set_option maxRecDepth 10000
namespace Go.Ab
open Go.Proofs
variable {G : Glo} {h : Heap}
theorem check_long {b : IBk} (h : b.pcs.length > 32 ∨ b.ops.length > 512 ∨ b.exits.length > 128) : b.check = 3 := by
  have : b.long = true := by simp only [IBk.long, Bool.or_eq_true, decide_eq_true_eq]; omega
  rw [IBk.check, if_pos this]
theorem check_short {b : IBk} (h1 : ¬ b.pcs.length > 32) (h2 : ¬ b.ops.length > 512) (h3 : ¬ b.exits.length > 128) : b.check = if b.right then 0 else 1 := by
  have : ¬ b.long = true := by simp only [IBk.long, Bool.or_eq_true, decide_eq_true_eq]; omega
  rw [IBk.check, if_neg this]
theorem Check_spec (b : IBk) (hw : b.wf) : Spec Try.prog G 60 [bkP b] h (Is (.int .i64 b.check) h) := by
  refine Spec.is C60ok rfl ?_
  by_cases g1 : (b.pcs.length : Int) > 32
  · simp only [push_cast, simprocAttr, g1]
    rw [check_long (by omega)]
  · by_cases g2 : (b.ops.length : Int) > 512
    · simp only [push_cast, simprocAttr, g1, g2]
      rw [check_long (by omega)]
    · by_cases g3 : (b.exits.length : Int) > 128
      · simp only [push_cast, simprocAttr, g1, g2, g3]
        rw [check_long (by omega)]
      · simp only [push_cast, simprocAttr, g1, g2, g3]
        refine (right_spec b hw).to ?_
        rw [check_short (by omega) (by omega) (by omega)]
        cases b.right with
        | true => simp only [push_cast, simprocAttr]
        | false => simp only [push_cast, simprocAttr]
theorem rCheck_spec (b : IBk) (hw : b.wf) : Spec Try.prog G 34 [.agg b.cells] h (Is (.int .i64 b.check) h) := by
  have hp := hw.hp
  have ho := hw.ho
  have he := hw.he
  refine Spec.is C34ok rfl ?_
  simp only [push_cast, simprocAttr]
  refine ⟨fun h1 => ?_, fun h1 => ?_⟩
  · rw [check_long (by omega)]
  · rw [check_short (by omega) (by omega) (by omega)]
    have hR : b.right = (allN b.ops.length b.opR && allN b.exits.length b.leaves && allN b.pcs.length (pcR b.pcs) && decide (0 < b.pcs.length) && b.exit b.last b.ops.length) := rfl
    generalize b.right = R at hR ⊢
    refine lpc.rel [1, 3] (fun m ρ h' => ∃ k : Nat, m = b.ops.length - k ∧ k ≤ b.ops.length ∧ h = h' ∧ (∀ i, i < k → b.opR i = true) ∧
      ρ = [(1, .cp b.cells 0), (3, .int .i64 (k : Int))]) ⟨_, 0, rfl, by omega, rfl, by intro i hi; omega, rfl⟩ ?_
    rintro m _ _ ⟨k, rfl, hk, rfl, hall, rfl⟩
    simp only [push_cast, simprocAttr]
    refine ⟨fun hk2 => (rop_spec b k hk2 hw.hm).to ?_, fun hk2 => ?_⟩
    · simp (disch := omega) only [push_cast, simprocAttr, wrap_i64, toNat_ofInt64, Nat.min_eq_left, Int.toNat_of_nonneg]
      refine ⟨fun hv => ?_, fun hv => ?_⟩
      · rw [hR, allN_false k hk2 hv]; rfl
      · refine ⟨_, _, by omega, .refl _, k + 1, rfl, by omega, rfl, fun i hi => ?_, rfl⟩
        by_cases hik : i = k
        · subst hik; exact hv
        · exact hall i (by omega)
    · obtain rfl : k = b.ops.length := by omega
      rw [allN_true hall, Bool.true_and] at hR
      refine lpc.rel [1, 4] (fun m ρ h' => ∃ k : Nat, m = b.exits.length - k ∧ k ≤ b.exits.length ∧ h = h' ∧ (∀ i, i < k → b.leaves i = true) ∧
        ρ = [(1, .cp b.cells 0), (4, .int .i64 (k : Int))]) ⟨_, 0, rfl, by omega, rfl, by intro i hi; omega, rfl⟩ ?_
      rintro m _ _ ⟨k, rfl, hk, rfl, hall, rfl⟩
      simp only [push_cast, simprocAttr]
      refine ⟨fun hk2 => (rleaves_spec b k hk2 hw.hm).to ?_, fun hk2 => ?_⟩
      · simp (disch := omega) only [push_cast, simprocAttr, wrap_i64, toNat_ofInt64, Nat.min_eq_left, Int.toNat_of_nonneg]
        refine ⟨fun hv => ?_, fun hv => ?_⟩
        · rw [hR, allN_false k hk2 hv]; rfl
        · refine ⟨_, _, by omega, .refl _, k + 1, rfl, by omega, rfl, fun i hi => ?_, rfl⟩
          by_cases hik : i = k
          · subst hik; exact hv
          · exact hall i (by omega)
      · obtain rfl : k = b.exits.length := by omega
        rw [allN_true hall, Bool.true_and] at hR
        refine lpc.rel [1, 5] (fun m ρ h' => ∃ k : Nat, m = b.pcs.length - k ∧ k ≤ b.pcs.length ∧ h = h' ∧ (∀ i, i < k → pcR b.pcs i = true) ∧
          ρ = [(1, .cp b.cells 0), (5, .int .i64 (k : Int))]) ⟨_, 0, rfl, by omega, rfl, by intro i hi; omega, rfl⟩ ?_
        rintro m _ _ ⟨k, rfl, hk, rfl, hall, rfl⟩
        by_cases hk2 : k < b.pcs.length
        · cases hv : (((b.pcs.getD k 0#32).toNat : Int).tmod 4 != 0) with
          | true =>
            have hv2 : pcR b.pcs k = false := by
              rw [bne_iff_ne, ne_eq, u32_rem] at hv
              exact decide_eq_false hv
            rw [hR, allN_false k hk2 hv2]
            simp (disch := omega) only [push_cast, simprocAttr, wrap_i64, toNat_ofInt64, Nat.min_eq_left, Int.toNat_of_nonneg, hk2, hv]
          | false =>
            have hv2 : pcR b.pcs k = true := by
              rw [bne_eq_false_iff_eq, u32_rem] at hv
              exact decide_eq_true hv
            simp (disch := omega) only [push_cast, simprocAttr, wrap_i64, toNat_ofInt64, Nat.min_eq_left, Int.toNat_of_nonneg, hk2, hv]
            refine ⟨_, _, by omega, .refl _, k + 1, rfl, by omega, rfl, fun i hi => ?_, rfl⟩
            by_cases hik : i = k
            · subst hik; exact hv2
            · exact hall i (by omega)
        · obtain rfl : k = b.pcs.length := by omega
          rw [allN_true hall, Bool.true_and] at hR
          by_cases h0 : b.pcs.length = 0
          · rw [decide_eq_false (by omega), Bool.false_and] at hR
            simp only [push_cast, simprocAttr, hk2, h0]
            rw [hR]; rfl
          · rw [decide_eq_true (by omega), Bool.true_and] at hR
            simp only [push_cast, simprocAttr, hk2, h0]
            refine ⟨fun _ => (rexit_spec b _ _ hw.hm).to ?_, fun h => by omega⟩
            cases hx : b.exit b.last b.ops.length with
            | true =>
              simp only [push_cast, simprocAttr]
              rw [hR, hx]; rfl
            | false =>
              simp only [push_cast, simprocAttr]
              rw [hR, hx]; rfl
def smT (es : List IEx) : Nat → Nat
  | 0 => 0
  | k + 1 => smT es k + (es.getD k IEx.zero).map.length
def IBk.size (b : IBk) : Nat := b.ops.length + b.exits.length + smT b.exits b.exits.length
theorem smT_le (es : List IEx) (k n : Nat) (hk : k ≤ n) : smT es k ≤ smT es n := by
  induction n with
  | zero => have : k = 0 := by omega
            rw [this]; exact Nat.le_refl _
  | succ n ih =>
    by_cases h : k = n + 1
    · rw [h]; exact Nat.le_refl _
    · have := ih (by omega)
      rw [smT]; omega
theorem rSize_spec (b : IBk) (hw : b.wf) (hz : b.size ≤ 140737488355328) : Spec Try.prog G 66 [.agg b.cells] h (Is (.int .i64 b.size) h) := by
  refine Spec.is C66ok rfl ?_
  simp only [push_cast, simprocAttr]
  refine lpc.rel [1, 3, 4] (fun m ρ h' => ∃ k : Nat, m = b.exits.length - k ∧ k ≤ b.exits.length ∧ h = h' ∧
    ρ = [(1, .cp b.cells 0), (3, .int .i64 ((b.ops.length + k + smT b.exits k : Nat) : Int)), (4, .int .i64 (k : Int))]) ⟨_, 0, rfl, by omega, rfl, rfl⟩ ?_
  rintro m _ _ ⟨k, rfl, hk, rfl, rfl⟩
  have hle := smT_le b.exits k _ hk
  have hsz : b.size = b.ops.length + b.exits.length + smT b.exits b.exits.length := rfl
  simp only [push_cast, simprocAttr]
  refine ⟨fun hk2 => ?_, fun hk2 => ?_⟩
  · have hs : smT b.exits (k + 1) = smT b.exits k + (b.exits.getD k IEx.zero).map.length := rfl
    have hle2 := smT_le b.exits (k + 1) _ hk2
    simp (disch := omega) only [push_cast, simprocAttr, wrap_i64, toNat_ofInt64, Nat.min_eq_left, Int.toNat_of_nonneg]
    refine ⟨hk2, hk2, _, _, by omega, .refl _, k + 1, rfl, by omega, rfl, ?_⟩
    have : (b.ops.length : Int) + k + (smT b.exits k : Nat) + 1 + ((b.exits.getD k IEx.zero).map.length : Nat) = ((b.ops.length + (k + 1) + smT b.exits (k + 1) : Nat) : Int) := by omega
    rw [this]; rfl
  · obtain rfl : k = b.exits.length := by omega
    rw [hsz]; rfl
theorem Size_spec (b : IBk) (hw : b.wf) (hz : b.size ≤ 140737488355328) : Spec Try.prog G 65 [bkP b] h (Is (.int .i64 (if b.check = 0 then (b.size : Int) else 0)) h) := by
  refine Spec.is C65ok rfl ?_
  simp only [push_cast, simprocAttr]
  refine (Check_spec b hw).to ?_
  simp only [push_cast, simprocAttr]
  refine ⟨fun h1 => by rw [if_neg h1], fun h1 => ?_⟩
  rw [if_pos h1]
  have hsz : b.size = b.ops.length + b.exits.length + smT b.exits b.exits.length := rfl
  simp (disch := omega) only [push_cast, simprocAttr, wrap_i64, toNat_ofInt64, Nat.min_eq_left, Int.toNat_of_nonneg]
  refine lpc.rel [3, 23, 24, 25] (fun m ρ h' => ∃ k : Nat, m = b.exits.length - k ∧ k ≤ b.exits.length ∧ h = h' ∧
    ρ = [(3, .int .i64 ((b.ops.length + b.exits.length + smT b.exits k : Nat) : Int)), (23, exs b.exits), (24, .int .i64 (b.exits.length : Int)), (25, .int .i64 (k : Int))]) ⟨_, 0, rfl, by omega, rfl, rfl⟩ ?_
  rintro m _ _ ⟨k, rfl, hk, rfl, rfl⟩
  have hle := smT_le b.exits k _ hk
  simp only [push_cast, simprocAttr]
  refine ⟨fun hk2 => ?_, fun hk2 => ?_⟩
  · have hs : smT b.exits (k + 1) = smT b.exits k + (b.exits.getD k IEx.zero).map.length := rfl
    have hle2 := smT_le b.exits (k + 1) _ hk2
    simp (disch := omega) only [push_cast, simprocAttr, wrap_i64, toNat_ofInt64, Nat.min_eq_left, Int.toNat_of_nonneg]
    refine ⟨hk2, hk2, fun c hc => ?_⟩
    rw [era_none hc]
    refine ⟨_, _, by omega, .refl _, k + 1, rfl, by omega, rfl, ?_⟩
    have : (b.ops.length : Int) + b.exits.length + (smT b.exits k : Nat) + ((b.exits.getD k IEx.zero).map.length : Nat) = ((b.ops.length + b.exits.length + smT b.exits (k + 1) : Nat) : Int) := by omega
    rw [this]; rfl
  · obtain rfl : k = b.exits.length := by omega
    rw [hsz]; rfl
def IBk.heavy (b : IBk) : Bool := decide (b.pcs.length > 100) || (decide (b.ops.length > 100) && decide (b.ops.length ≤ 512)) || decide (b.ops.length > 600) || decide (b.exits.length > 200)
def IBk.light (b : IBk) : Bool := ! b.heavy && allN b.exits.length fun i => decide ((b.exits.getD i IEx.zero).map.length ≤ 100)
theorem light_spec (b : IBk) (he : b.exits.length ≤ 9223372036854775807) : Spec Try.prog G 33 [.agg b.cells] h (Is (.bool b.light) h) := by
  have hL : b.light = (! b.heavy && allN b.exits.length fun i => decide ((b.exits.getD i IEx.zero).map.length ≤ 100)) := rfl
  have hH : b.heavy = (decide (b.pcs.length > 100) || (decide (b.ops.length > 100) && decide (b.ops.length ≤ 512)) || decide (b.ops.length > 600) || decide (b.exits.length > 200)) := rfl
  generalize b.light = L at hL ⊢
  refine Spec.is C33ok rfl ?_
  simp only [push_cast, simprocAttr]
  refine ⟨fun h1 => ⟨fun h2 => ?_, fun h2 => ?_⟩, fun h1 => ?_⟩
  · have : b.heavy = true := by rw [hH]; simp only [Bool.or_eq_true, Bool.and_eq_true, decide_eq_true_eq]; omega
    rw [hL, this]; rfl
  · have : b.heavy = false := by
      rw [hH, ← Bool.not_eq_true]
      simp only [Bool.or_eq_true, Bool.and_eq_true, decide_eq_true_eq]
      rw [← Bool.not_eq_true] at h2
      simp only [Bool.and_eq_true, decide_eq_true_eq] at h2
      omega
    rw [this, Bool.not_false, Bool.true_and] at hL
    refine lpc.rel [1, 3] (fun m ρ h' => ∃ k : Nat, m = b.exits.length - k ∧ k ≤ b.exits.length ∧ h = h' ∧ (∀ i, i < k → decide ((b.exits.getD i IEx.zero).map.length ≤ 100) = true) ∧
      ρ = [(1, .cp b.cells 0), (3, .int .i64 (k : Int))]) ⟨_, 0, rfl, by omega, rfl, by intro i hi; omega, rfl⟩ ?_
    rintro m _ _ ⟨k, rfl, hk, rfl, hall, rfl⟩
    simp only [push_cast, simprocAttr]
    refine ⟨fun hk2 => ⟨hk2, hk2, fun hv => ?_, fun hv => ?_⟩, fun hk2 => ?_⟩
    · rw [hL, allN_false k hk2 (decide_eq_false (by omega))]
    · simp (disch := omega) only [push_cast, simprocAttr, wrap_i64, toNat_ofInt64, Nat.min_eq_left, Int.toNat_of_nonneg]
      refine ⟨_, _, by omega, .refl _, k + 1, rfl, by omega, rfl, fun i hi => ?_, rfl⟩
      by_cases hik : i = k
      · subst hik; omega
      · exact of_decide_eq_true (hall i (by omega))
    · obtain rfl : k = b.exits.length := by omega
      rw [hL, allN_true hall]
  · have : b.heavy = true := by rw [hH]; simp only [Bool.or_eq_true, Bool.and_eq_true, decide_eq_true_eq]; omega
    rw [hL, this]; rfl
theorem light_facts {b : IBk} (h : b.light = true) : b.wf ∧ b.ops.length ≤ 600 ∧ b.exits.length ≤ 200 ∧ b.pcs.length ≤ 100 ∧ b.size ≤ 30000 ∧ ∀ e ∈ b.exits, e.map.length ≤ 100 := by
  simp only [IBk.light, Bool.and_eq_true, Bool.not_eq_true'] at h
  obtain ⟨h1, h2⟩ := h
  simp only [IBk.heavy, Bool.or_eq_false_iff, Bool.and_eq_false_iff, decide_eq_false_iff_not] at h1
  have hm : ∀ e ∈ b.exits, e.map.length ≤ 100 := by
    intro e he
    obtain ⟨i, hi, rfl⟩ := List.getElem_of_mem he
    have := allN_get h2 i hi
    simpa [hi] using this
  have hs : ∀ k, smT b.exits k ≤ 100 * k := by
    intro k
    induction k with
    | zero => exact Nat.le_refl _
    | succ k ih =>
      rw [smT]
      have : (b.exits.getD k IEx.zero).map.length ≤ 100 := by
        by_cases hk : k < b.exits.length
        · have := hm b.exits[k] (List.getElem_mem _)
          simpa [hk] using this
        · have : b.exits.getD k IEx.zero = IEx.zero := by simp [Nat.not_lt.1 hk]
          rw [this]; simp [IEx.zero]
      omega
  have h3 := hs b.exits.length
  refine ⟨⟨by omega, by omega, by omega, fun e he => by have := hm e he; omega, by omega, by omega, by omega, fun e he => by have := hm e he; omega⟩, by omega, by omega, by omega, ?_, hm⟩
  rw [IBk.size]
  omega
end Go.Ab
