/- Contracts: what is wrong with a block. -/
import Derived.Test.YtjaknpophnolmaaB3
set_option linter.unusedSimpArgs false
set_option linter.unusedVariables false
set_option maxRecDepth 10000
namespace Go.Ab
open Go.Proofs
variable {G : Glo} {h : Heap}
theorem u32_rem (x : BitVec 32) : ((x.toNat : Int).tmod 4 = 0) ↔ x.toNat % 4 = 0 := by
  show ((x.toNat % 4 : Nat) : Int) = 0 ↔ _
  omega
/-- An exit by itself. -/
def headN (b : IBk) (n : Nat) : Bool := b.exit n b.ops.length && decide (0 ≤ (b.ex n).done) && decide ((b.ex n).done ≤ b.pcs.length) && decide ((b.ex n).pc.toNat % 4 = 0) && decide (1 ≤ (b.ex n).why) && decide ((b.ex n).why ≤ 4)
def regN (e : IEx) (i : Nat) : Bool := decide (1 ≤ (e.vl i).reg) && decide ((e.vl i).reg ≤ 31) && (decide (i = 0) || decide ((e.vl (i - 1)).reg < (e.vl i).reg))
theorem leaves_eq (b : IBk) (n : Nat) : b.leaves n = (headN b n && allN (b.ex n).map.length (regN (b.ex n))) := rfl
theorem regN_iff (e : IEx) (i : Nat) : regN e i = true ↔ 1 ≤ (e.vl i).reg ∧ (e.vl i).reg ≤ 31 ∧ (i = 0 ∨ (e.vl (i - 1)).reg < (e.vl i).reg) := by
  simp [regN, and_assoc]
theorem regN_no {e : IEx} {i : Nat} (h : ¬ (1 ≤ (e.vl i).reg ∧ (e.vl i).reg ≤ 31 ∧ (i = 0 ∨ (e.vl (i - 1)).reg < (e.vl i).reg))) : regN e i = false := by
  rw [← Bool.not_eq_true, regN_iff]; exact h
theorem regN_step {e : IEx} {k : Nat} (hall : ∀ i, i < k → regN e i = true) (h : 1 ≤ (e.vl k).reg ∧ (e.vl k).reg ≤ 31 ∧ (k = 0 ∨ (e.vl (k - 1)).reg < (e.vl k).reg)) : ∀ i, i < k + 1 → regN e i = true := by
  intro i hi
  by_cases hik : i = k
  · subst hik; rw [regN_iff]; exact h
  · exact hall i (by omega)
theorem rleaves_spec (b : IBk) (n : Nat) (hn : n < b.exits.length) (hm : ∀ e ∈ b.exits, e.map.length ≤ 140737488355328) : Spec Try.prog G 30 [.agg b.cells, .int .i64 n] h (Is (.bool (b.leaves n)) h) := by
  refine Spec.is C30ok rfl ?_
  simp only [push_cast, simprocAttr]
  refine ⟨hn, hn, fun c hc => ?_⟩
  rw [era_none hc, leaves_eq]
  have hl := getD_map (n := n) hm
  have hH : headN b n = (b.exit n b.ops.length && decide (0 ≤ (b.ex n).done) && decide ((b.ex n).done ≤ b.pcs.length) && decide ((b.ex n).pc.toNat % 4 = 0) && decide (1 ≤ (b.ex n).why) && decide ((b.ex n).why ≤ 4)) := rfl
  generalize hEx : b.ex n = e at hH ⊢
  have hEy : b.exits.getD n IEx.zero = e := hEx
  rw [hEy] at hl ⊢
  refine (rexit_spec b _ _ hm).to ?_
  simp only [push_cast, simprocAttr]
  refine ⟨fun h1 => ?_, fun h1 => ?_⟩
  · have : headN b n = false := by
      rw [hH]
      have := u32_rem e.pc
      by_cases g : e.pc.toNat % 4 = 0
      · rw [this] at h1
        grind
      · grind
    rw [this]; rfl
  · have : headN b n = true := by
      rw [hH]
      have := u32_rem e.pc
      rw [this] at h1
      grind
    rw [this, Bool.true_and]
    refine lpc.rel [5, 6] (fun m ρ h' => ∃ k : Nat, m = e.map.length - k ∧ k ≤ e.map.length ∧ h = h' ∧ (∀ i, i < k → regN e i = true) ∧ ρ = [(5, .cp e.cells 0), (6, .int .i64 (k : Int))]) ⟨_, 0, rfl, by omega, rfl, by intro i hi; omega, rfl⟩ ?_
    rintro m _ _ ⟨k, rfl, hk, rfl, hall, rfl⟩
    by_cases hk2 : k < e.map.length
    · have hv : e.vl k = e.map.getD k IVl.zero := rfl
      have hR := regN_no (e := e) (i := k)
      have hS := regN_step hall
      rw [hv] at hR hS
      by_cases p1 : (e.map.getD k IVl.zero).reg < 1
      · simp only [push_cast, simprocAttr, hk2, p1]
        rw [allN_false k hk2 (hR (by omega))]
      · by_cases p2 : (e.map.getD k IVl.zero).reg > 31
        · simp only [push_cast, simprocAttr, hk2, p1, p2]
          rw [allN_false k hk2 (hR (by omega))]
        · by_cases p3 : k = 0
          · have q3 : ¬ (k : Int) > 0 := by omega
            have ew2 : IntKind.i64.wrap ((k : Int) + 1) = (k : Int) + 1 := wrap_i64 (by omega) (by omega)
            simp only [push_cast, simprocAttr, hk2, p1, p2, q3, ew2]
            exact ⟨_, _, by omega, .refl _, k + 1, rfl, by omega, rfl, hS (by omega), rfl⟩
          · obtain ⟨j, hj⟩ : ∃ j, k = j + 1 := ⟨k - 1, by omega⟩
            have hw : e.vl (k - 1) = e.map.getD j IVl.zero := by rw [hj]; rfl
            have hj2 : j < e.map.length := by omega
            rw [hw] at hR hS
            have q3 : (k : Int) > 0 := by omega
            have ew : IntKind.i64.wrap ((k : Int) - 1) = (j : Int) := by rw [wrap_i64 (by omega) (by omega)]; omega
            have ew2 : IntKind.i64.wrap ((k : Int) + 1) = (k : Int) + 1 := wrap_i64 (by omega) (by omega)
            by_cases p4 : (e.map.getD k IVl.zero).reg ≤ (e.map.getD j IVl.zero).reg
            · simp only [push_cast, simprocAttr, hk2, p1, p2, p4, q3, ew, ew2, hj2]
              rw [allN_false k hk2 (hR (by omega))]
            · simp only [push_cast, simprocAttr, hk2, p1, p2, p4, q3, ew, ew2, hj2]
              exact ⟨_, _, by omega, .refl _, k + 1, rfl, by omega, rfl, hS (by omega), rfl⟩
    · obtain rfl : k = e.map.length := by omega
      simp only [push_cast, simprocAttr, hk2]
      rw [allN_true hall]
theorem leaves_spec (b : IBk) (n : Nat) (hn : n < b.exits.length) (hm : ∀ e ∈ b.exits, e.map.length ≤ 140737488355328) : Spec Try.prog G 79 [.agg [bkP b], .int .i64 n] h (Is (.bool (b.leaves n)) h) := by
  refine Spec.is C79ok rfl ?_
  simp only [push_cast, simprocAttr]
  refine ⟨hn, hn, fun c hc => ?_⟩
  rw [era_none hc, leaves_eq]
  have hl := getD_map (n := n) hm
  have hH : headN b n = (b.exit n b.ops.length && decide (0 ≤ (b.ex n).done) && decide ((b.ex n).done ≤ b.pcs.length) && decide ((b.ex n).pc.toNat % 4 = 0) && decide (1 ≤ (b.ex n).why) && decide ((b.ex n).why ≤ 4)) := rfl
  generalize hEx : b.ex n = e at hH ⊢
  have hEy : b.exits.getD n IEx.zero = e := hEx
  rw [hEy] at hl ⊢
  refine (exit_spec b _ _ hm).to ?_
  cases hx : b.exit n b.ops.length with
  | false =>
    simp only [push_cast, simprocAttr]
    rw [hH, hx]; rfl
  | true =>
    by_cases g1 : e.done < 0
    · simp only [push_cast, simprocAttr, g1]
      rw [hH, hx]
      (first | rfl | (congr 1; done) | (congr 1; rw [Bool.eq_iff_iff]; simp only [Bool.and_eq_true, Bool.or_eq_true, Bool.not_eq_true', decide_eq_true_eq, decide_eq_false_iff_not, Bool.false_eq_true, true_and, and_true]; first | omega | grind))
    · by_cases g2 : e.done > b.pcs.length
      · simp only [push_cast, simprocAttr, g1, g2]
        rw [hH, hx]
        (first | rfl | (congr 1; done) | (congr 1; rw [Bool.eq_iff_iff]; simp only [Bool.and_eq_true, Bool.or_eq_true, Bool.not_eq_true', decide_eq_true_eq, decide_eq_false_iff_not, Bool.false_eq_true, true_and, and_true]; first | omega | grind))
      · simp only [push_cast, simprocAttr, g1, g2]
        cases g3 : ((e.pc.toNat : Int).tmod 4 != 0) with
        | true =>
          simp only [push_cast, simprocAttr]
          rw [hH, hx]
          have := u32_rem e.pc
          rw [bne_iff_ne, ne_eq, this] at g3
          (first | rfl | (congr 1; done) | (congr 1; rw [Bool.eq_iff_iff]; simp only [Bool.and_eq_true, Bool.or_eq_true, Bool.not_eq_true', decide_eq_true_eq, decide_eq_false_iff_not, Bool.false_eq_true, true_and, and_true]; first | omega | grind))
        | false =>
          rw [bne_eq_false_iff_eq, u32_rem] at g3
          by_cases g4 : e.why < 1
          · simp only [push_cast, simprocAttr, g4]
            rw [hH, hx]
            (first | rfl | (congr 1; done) | (congr 1; rw [Bool.eq_iff_iff]; simp only [Bool.and_eq_true, Bool.or_eq_true, Bool.not_eq_true', decide_eq_true_eq, decide_eq_false_iff_not, Bool.false_eq_true, true_and, and_true]; first | omega | grind))
          · by_cases g5 : e.why > 4
            · simp only [push_cast, simprocAttr, g4, g5]
              rw [hH, hx]
              (first | rfl | (congr 1; done) | (congr 1; rw [Bool.eq_iff_iff]; simp only [Bool.and_eq_true, Bool.or_eq_true, Bool.not_eq_true', decide_eq_true_eq, decide_eq_false_iff_not, Bool.false_eq_true, true_and, and_true]; first | omega | grind))
            · have hh : headN b n = true := by rw [hH, hx]; simp; omega
              rw [hh, Bool.true_and]
              simp only [push_cast, simprocAttr, g4, g5]
              refine lpc.rel [6, 60, 61, 62] (fun m ρ h' => ∃ k : Nat, m = e.map.length - k ∧ k ≤ e.map.length ∧ h = h' ∧ (∀ i, i < k → regN e i = true) ∧
                ρ = [(6, .int .i64 (if k = 0 then 0 else (e.vl (k - 1)).reg)), (60, vls e.map), (61, .int .i64 (e.map.length : Int)), (62, .int .i64 (k : Int))]) ⟨_, 0, rfl, by omega, rfl, by intro i hi; omega, rfl⟩ ?_
              rintro m _ _ ⟨k, rfl, hk, rfl, hall, rfl⟩
              simp only [push_cast, simprocAttr]
              refine ⟨fun hk2 => ⟨hk2, hk2, fun d hd => ?_⟩, fun hk2 => ?_⟩
              · rw [era_none hd]
                have hv : e.vl k = e.map.getD k IVl.zero := rfl
                have hR := regN_no (e := e) (i := k)
                have hS := regN_step hall
                rw [hv] at hR hS
                have hlast : 0 ≤ (if k = 0 then 0 else (e.vl (k - 1)).reg) ∧ (k = 0 → (if k = 0 then 0 else (e.vl (k - 1)).reg) = 0) ∧ (k ≠ 0 → (if k = 0 then 0 else (e.vl (k - 1)).reg) = (e.vl (k - 1)).reg) := by
                  by_cases hk0 : k = 0
                  · simp [hk0]
                  · have := (regN_iff e (k - 1)).1 (hall (k - 1) (by omega))
                    simp [hk0]
                    omega
                generalize (if k = 0 then 0 else (e.vl (k - 1)).reg) = last at hlast ⊢
                refine ⟨fun hb => ⟨?_, .refl _⟩, fun hb => ?_⟩
                · rw [allN_false k hk2 (hR (by
                    rintro ⟨q1, q2, q3⟩
                    by_cases hk0 : k = 0
                    · have := hlast.2.1 hk0; omega
                    · have := hlast.2.2 hk0; omega))]
                · simp (disch := omega) only [push_cast, simprocAttr, wrap_i64, toNat_ofInt64, Nat.min_eq_left, Int.toNat_of_nonneg]
                  refine ⟨_, _, by omega, .refl _, k + 1, rfl, by omega, rfl, hS ⟨by omega, by omega, ?_⟩, rfl⟩
                  by_cases hk0 : k = 0
                  · exact .inl hk0
                  · have := hlast.2.2 hk0; omega
              · obtain rfl : k = e.map.length := by omega
                rw [allN_true hall]
end Go.Ab
