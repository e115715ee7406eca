/- Contracts: what is right in a block. -/
import Derived.Test.YtjaknpophnolmaaB2
set_option linter.unusedSimpArgs false
set_option linter.unusedVariables false
set_option maxRecDepth 10000
namespace Go.Ab
open Go.Proofs
variable {G : Glo} {h : Heap}
theorem opR_eq (b : IBk) (k : Nat) {o : IOp} (ho : b.ops.getD k IOp.zero = o) : b.opR k =
  if o.code = 1 then decide (1 ≤ (o.imm.toNat : Int)) && decide ((o.imm.toNat : Int) ≤ 31) && decide (o.x = 0) && decide (o.y = 0) && decide (o.a = 0) && decide (o.b = 0)
  else if o.code = 2 then decide (o.x = 0) && decide (o.y = 0) && decide (o.a = 0) && decide (o.b = 0)
  else if o.code = 3 then reckonsN o.imm.toNat && decide (o.x = 0) && decide (o.y = 0) && b.val o.a k && b.val o.b k
  else if o.code = 4 then decide (0 < loadsN o.imm.toNat) && decide (o.y = 0) && decide (o.b = 0) && b.val o.a k && b.exit o.x k
  else if o.code = 5 then decide (0 < storesN o.imm.toNat) && b.val o.a k && b.val o.b k && b.exit o.x k && b.exit o.y k
  else if o.code = 6 then decide (5 ≤ (o.imm.toNat : Int)) && decide ((o.imm.toNat : Int) ≤ 10) && decide (o.y = 0) && b.val o.a k && b.val o.b k && b.exit o.x k
  else false := by subst ho; rfl
theorem rop_spec (b : IBk) (k : Nat) (hk : k < b.ops.length) (hm : ∀ e ∈ b.exits, e.map.length ≤ 140737488355328) : Spec Try.prog G 29 [.agg b.cells, .int .i64 k] h (Is (.bool (b.opR k)) h) := by
  refine Spec.is C29ok rfl ?_
  simp only [push_cast, simprocAttr]
  refine ⟨hk, hk, fun c hc => ?_⟩
  rw [era_none hc]
  generalize ho : b.ops.getD k IOp.zero = o
  have hR := opR_eq b k ho
  generalize b.opR k = R at hR ⊢
  simp only [push_cast, simprocAttr]
  refine ⟨fun h1 => ?_, fun h1 => ⟨fun h2 => ?_, fun h2 => ⟨fun h3 => (rReckons_spec _).to ?_, fun h3 => ⟨fun h4 => (rLoads_spec _).to ?_, fun h4 => ⟨fun h5 => (rStores_spec _).to ?_, fun h5 => ⟨fun h6 => ?_, fun h6 => ?_⟩⟩⟩⟩⟩⟩
  · rw [if_pos h1] at hR
    rw [hR]
    (first | rfl | (congr 1; done) | (congr 1; rw [Bool.eq_iff_iff]; simp only [Bool.and_eq_true, Bool.or_eq_true, Bool.not_eq_true', decide_eq_true_eq, decide_eq_false_iff_not, Bool.false_eq_true, true_and, and_true]; first | omega | grind))
  · rw [if_neg h1, if_pos h2] at hR
    rw [hR]
    (first | rfl | (congr 1; done) | (congr 1; rw [Bool.eq_iff_iff]; simp only [Bool.and_eq_true, Bool.or_eq_true, Bool.not_eq_true', decide_eq_true_eq, decide_eq_false_iff_not, Bool.false_eq_true, true_and, and_true]; first | omega | grind))
  · rw [if_neg h1, if_neg h2, if_pos h3] at hR
    simp only [push_cast, simprocAttr]
    refine ⟨fun g1 => (rValue_spec b _ _).to ?_, fun g1 => ?_⟩
    · simp only [push_cast, simprocAttr]
      refine ⟨fun g2 => (rValue_spec b _ _).to ?_, fun g2 => ?_⟩
      · simp only [push_cast, simprocAttr]
        rw [hR]
        (first | rfl | (congr 1; done) | (congr 1; rw [Bool.eq_iff_iff]; simp only [Bool.and_eq_true, Bool.or_eq_true, Bool.not_eq_true', decide_eq_true_eq, decide_eq_false_iff_not, Bool.false_eq_true, true_and, and_true]; first | omega | grind))
      · rw [hR]
        (first | rfl | (congr 1; done) | (congr 1; rw [Bool.eq_iff_iff]; simp only [Bool.and_eq_true, Bool.or_eq_true, Bool.not_eq_true', decide_eq_true_eq, decide_eq_false_iff_not, Bool.false_eq_true, true_and, and_true]; first | omega | grind))
    · rw [hR]
      (first | rfl | (congr 1; done) | (congr 1; rw [Bool.eq_iff_iff]; simp only [Bool.and_eq_true, Bool.or_eq_true, Bool.not_eq_true', decide_eq_true_eq, decide_eq_false_iff_not, Bool.false_eq_true, true_and, and_true]; first | omega | grind))
  · rw [if_neg h1, if_neg h2, if_neg h3, if_pos h4] at hR
    simp only [push_cast, simprocAttr]
    refine ⟨fun g1 => (rValue_spec b _ _).to ?_, fun g1 => ?_⟩
    · simp only [push_cast, simprocAttr]
      refine ⟨fun g2 => (rexit_spec b _ _ hm).to ?_, fun g2 => ?_⟩
      · simp only [push_cast, simprocAttr]
        rw [hR]
        (first | rfl | (congr 1; done) | (congr 1; rw [Bool.eq_iff_iff]; simp only [Bool.and_eq_true, Bool.or_eq_true, Bool.not_eq_true', decide_eq_true_eq, decide_eq_false_iff_not, Bool.false_eq_true, true_and, and_true]; first | omega | grind))
      · rw [hR]
        (first | rfl | (congr 1; done) | (congr 1; rw [Bool.eq_iff_iff]; simp only [Bool.and_eq_true, Bool.or_eq_true, Bool.not_eq_true', decide_eq_true_eq, decide_eq_false_iff_not, Bool.false_eq_true, true_and, and_true]; first | omega | grind))
    · rw [hR]
      (first | rfl | (congr 1; done) | (congr 1; rw [Bool.eq_iff_iff]; simp only [Bool.and_eq_true, Bool.or_eq_true, Bool.not_eq_true', decide_eq_true_eq, decide_eq_false_iff_not, Bool.false_eq_true, true_and, and_true]; first | omega | grind))
  · rw [if_neg h1, if_neg h2, if_neg h3, if_neg h4, if_pos h5] at hR
    simp only [push_cast, simprocAttr]
    refine ⟨fun g1 => (rValue_spec b _ _).to ?_, fun g1 => ?_⟩
    · simp only [push_cast, simprocAttr]
      refine ⟨fun g2 => (rValue_spec b _ _).to ?_, fun g2 => ?_⟩
      · simp only [push_cast, simprocAttr]
        refine ⟨fun g3 => (rexit_spec b _ _ hm).to ?_, fun g3 => ?_⟩
        · simp only [push_cast, simprocAttr]
          refine ⟨fun g4 => (rexit_spec b _ _ hm).to ?_, fun g4 => ?_⟩
          · simp only [push_cast, simprocAttr]
            rw [hR]
            (first | rfl | (congr 1; done) | (congr 1; rw [Bool.eq_iff_iff]; simp only [Bool.and_eq_true, Bool.or_eq_true, Bool.not_eq_true', decide_eq_true_eq, decide_eq_false_iff_not, Bool.false_eq_true, true_and, and_true]; first | omega | grind))
          · rw [hR]
            (first | rfl | (congr 1; done) | (congr 1; rw [Bool.eq_iff_iff]; simp only [Bool.and_eq_true, Bool.or_eq_true, Bool.not_eq_true', decide_eq_true_eq, decide_eq_false_iff_not, Bool.false_eq_true, true_and, and_true]; first | omega | grind))
        · rw [hR]
          (first | rfl | (congr 1; done) | (congr 1; rw [Bool.eq_iff_iff]; simp only [Bool.and_eq_true, Bool.or_eq_true, Bool.not_eq_true', decide_eq_true_eq, decide_eq_false_iff_not, Bool.false_eq_true, true_and, and_true]; first | omega | grind))
      · rw [hR]
        (first | rfl | (congr 1; done) | (congr 1; rw [Bool.eq_iff_iff]; simp only [Bool.and_eq_true, Bool.or_eq_true, Bool.not_eq_true', decide_eq_true_eq, decide_eq_false_iff_not, Bool.false_eq_true, true_and, and_true]; first | omega | grind))
    · rw [hR]
      (first | rfl | (congr 1; done) | (congr 1; rw [Bool.eq_iff_iff]; simp only [Bool.and_eq_true, Bool.or_eq_true, Bool.not_eq_true', decide_eq_true_eq, decide_eq_false_iff_not, Bool.false_eq_true, true_and, and_true]; first | omega | grind))
  · rw [if_neg h1, if_neg h2, if_neg h3, if_neg h4, if_neg h5, if_pos h6] at hR
    refine ⟨fun g1 => (rValue_spec b _ _).to ?_, fun g1 => ?_⟩
    · simp only [push_cast, simprocAttr]
      refine ⟨fun g2 => (rValue_spec b _ _).to ?_, fun g2 => ?_⟩
      · simp only [push_cast, simprocAttr]
        refine ⟨fun g3 => (rexit_spec b _ _ hm).to ?_, fun g3 => ?_⟩
        · simp only [push_cast, simprocAttr]
          rw [hR]
          (first | rfl | (congr 1; done) | (congr 1; rw [Bool.eq_iff_iff]; simp only [Bool.and_eq_true, Bool.or_eq_true, Bool.not_eq_true', decide_eq_true_eq, decide_eq_false_iff_not, Bool.false_eq_true, true_and, and_true]; first | omega | grind))
        · rw [hR]
          (first | rfl | (congr 1; done) | (congr 1; rw [Bool.eq_iff_iff]; simp only [Bool.and_eq_true, Bool.or_eq_true, Bool.not_eq_true', decide_eq_true_eq, decide_eq_false_iff_not, Bool.false_eq_true, true_and, and_true]; first | omega | grind))
      · rw [hR]
        (first | rfl | (congr 1; done) | (congr 1; rw [Bool.eq_iff_iff]; simp only [Bool.and_eq_true, Bool.or_eq_true, Bool.not_eq_true', decide_eq_true_eq, decide_eq_false_iff_not, Bool.false_eq_true, true_and, and_true]; first | omega | grind))
    · rw [hR]
      (first | rfl | (congr 1; done) | (congr 1; rw [Bool.eq_iff_iff]; simp only [Bool.and_eq_true, Bool.or_eq_true, Bool.not_eq_true', decide_eq_true_eq, decide_eq_false_iff_not, Bool.false_eq_true, true_and, and_true]; first | omega | grind))
  · rw [if_neg h1, if_neg h2, if_neg h3, if_neg h4, if_neg h5, if_neg h6] at hR
    rw [hR]
theorem kind_spec (o : IOp) : Spec Try.prog G 90 [.agg o.cells] h (Is (.bool (kindN o)) h) := by
  refine Spec.is C90ok rfl ?_
  simp only [push_cast, simprocAttr]
  unfold kindN
  refine ⟨fun h1 => ?_, fun h1 => ⟨fun h2 => ?_, fun h2 => ⟨fun h3 => (Reckons_spec _).to ?_, fun h3 => ⟨fun h4 => (Loads_spec _).to ?_, fun h4 => ⟨fun h5 => (Stores_spec _).to ?_, fun h5 => ⟨fun h6 => ?_, fun h6 => ?_⟩⟩⟩⟩⟩⟩
  · rw [if_pos h1]
  · rw [if_neg h1, if_pos h2]
  · simp only [push_cast, simprocAttr]
    rw [if_neg h1, if_neg h2, if_pos h3]
  · simp only [push_cast, simprocAttr]
    rw [if_neg h1, if_neg h2, if_neg h3, if_pos h4]
  · simp only [push_cast, simprocAttr]
    rw [if_neg h1, if_neg h2, if_neg h3, if_neg h4, if_pos h5]
  · rw [if_neg h1, if_neg h2, if_neg h3, if_neg h4, if_neg h5, if_pos h6]
  · rw [if_neg h1, if_neg h2, if_neg h3, if_neg h4, if_neg h5, if_neg h6]
def namedN (o : IOp) : Bool := if o.code = 5 then true else if o.code = 6 then decide (o.y = 0) else if o.code = 3 then decide (o.x = 0) && decide (o.y = 0) else if o.code = 4 then decide (o.b = 0) && decide (o.y = 0) else decide (o.a = 0) && decide (o.b = 0) && decide (o.x = 0) && decide (o.y = 0)
@[push_cast] theorem op_eqs (a b c d e f a' b' c' d' e' f' : Int) (neg : Bool) : aeq neg [.i, .i, .i, .i, .i, .i] (.agg [.int .i64 a, .int .i64 b, .int .i64 c, .int .u32 d, .int .i64 e, .int .i64 f]) (.agg [.int .i64 a', .int .i64 b', .int .i64 c', .int .u32 d', .int .i64 e', .int .i64 f']) = some (.bool ((a == a' && (b == b' && (c == c' && (d == d' && (e == e' && f == f'))))) != neg)) := by
  simp [aeq, cellsEq]
theorem op_eqd (x y : IOp) (neg : Bool) : aeq neg [.i, .i, .i, .i, .i, .i] (.agg x.cells) (.agg y.cells) = some (.bool (decide (x = y) != neg)) := by
  unfold IOp.cells
  rw [op_eqs]
  congr 3
  rw [Bool.eq_iff_iff]
  obtain ⟨a, b, c, d, e, f⟩ := x
  obtain ⟨a', b', c', d', e', f'⟩ := y
  simp [← BitVec.toNat_inj]
  intros; omega
theorem named_spec (o : IOp) : Spec Try.prog G 91 [.agg o.cells] h (Is (.bool (namedN o)) h) := by
  refine Spec.is C91ok rfl ?_
  simp only [push_cast, simprocAttr]
  intro c hc
  have hs : ∀ X, Sub h (upd h c X) := fun X => (Sub.refl h).alloc hc
  unfold IOp.cells
  simp only [push_cast, simprocAttr]
  unfold namedN
  refine ⟨fun h1 => ⟨?_, hs _⟩, fun h1 => ⟨fun h2 => ⟨?_, hs _⟩, fun h2 => ⟨fun h3 => ⟨?_, hs _⟩, fun h3 => ⟨fun h4 => ⟨?_, hs _⟩, fun h4 => ⟨?_, hs _⟩⟩⟩⟩⟩
  · rw [if_pos h1]
  · rw [if_neg h1, if_pos h2]
    congr 1; rw [Bool.eq_iff_iff]; simp <;> omega
  · rw [if_neg h1, if_neg h2, if_pos h3]
    congr 1; rw [Bool.eq_iff_iff]; simp <;> omega
  · rw [if_neg h1, if_neg h2, if_neg h3, if_pos h4]
    congr 1; rw [Bool.eq_iff_iff]; simp <;> omega
  · rw [if_neg h1, if_neg h2, if_neg h3, if_neg h4]
    congr 1; rw [Bool.eq_iff_iff]; simp <;> omega
def usesN (o : IOp) : List Int := if o.code = 3 ∨ o.code = 5 ∨ o.code = 6 then [o.a, o.b] else if o.code = 4 then [o.a] else []
abbrev ints (l : List Int) : AV := .ro (l.map (.int .i64)) l.length
theorem Uses_spec (o : IOp) : Spec Try.prog G 92 [.agg o.cells] h (Is (ints (usesN o)) h) := by
  refine Spec.weak (Q := fun r h' => Sub h h' ∧ ((usesN o = [] ∧ r = .nils) ∨ r = ints (usesN o))) ?_ ?_
  · refine Spec.walk C92ok rfl ?_
    simp only [push_cast, simprocAttr]
    unfold usesN
    by_cases h3 : o.code = 3
    · simp [h3]
    · by_cases h5 : o.code = 5
      · simp [h5]
      · by_cases h6 : o.code = 6
        · simp [h6]
        · by_cases h4 : o.code = 4
          · simp [h4]
          · simp [h3, h4, h5, h6]
  · rintro r h' ⟨hs, ⟨he, rfl⟩ | rfl⟩
    · rw [he]
      exact ⟨_, _, ⟨rfl, rfl⟩, le_sub hs Le.nils⟩
    · exact ⟨_, _, ⟨rfl, rfl⟩, le_sub hs (Le.refl _ _)⟩
def exN (b : IBk) (o : IOp) (k : Nat) : Bool := if o.code = 5 then b.exit o.x k && b.exit o.y k else if o.code = 4 ∨ o.code = 6 then b.exit o.x k else true
theorem opR_parts (b : IBk) (k : Nat) {o : IOp} (ho : b.ops.getD k IOp.zero = o) : b.opR k = (kindN o && namedN o && allN (usesN o).length (fun i => b.val ((usesN o).getD i 0) k) && exN b o k) := by
  rw [opR_eq b k ho]
  unfold kindN namedN usesN exN
  by_cases h1 : o.code = 1
  · simp [h1, allN]; grind
  · by_cases h2 : o.code = 2
    · simp [h2, allN]; grind
    · by_cases h3 : o.code = 3
      · simp [h3, allN, List.range_succ]; grind
      · by_cases h4 : o.code = 4
        · simp [h4, allN, List.range_succ]; grind
        · by_cases h5 : o.code = 5
          · simp [h5, allN, List.range_succ]; grind
          · by_cases h6 : o.code = 6
            · simp [h6, allN, List.range_succ]; grind
            · simp [h1, h2, h3, h4, h5, h6]
@[push_cast] theorem ints_get (l : List Int) (i : Nat) : (l.map (AV.int .i64))[i]? = if i < l.length then some (AV.int .i64 (l.getD i 0)) else none := by
  simp only [List.getElem?_map]
  split
  · rename_i h; simp [h]
  · rename_i h; simp [Nat.not_lt.1 h]
theorem usesN_len (o : IOp) : (usesN o).length ≤ 2 := by
  unfold usesN
  split
  · simp
  · split <;> simp
theorem op_spec (b : IBk) (k : Nat) (hk : k < b.ops.length) (hm : ∀ e ∈ b.exits, e.map.length ≤ 140737488355328) : Spec Try.prog G 78 [.agg [bkP b], .int .i64 k] h (Is (.bool (b.opR k)) h) := by
  refine Spec.is C78ok rfl ?_
  simp only [push_cast, simprocAttr]
  refine ⟨hk, hk, fun c hc => ?_⟩
  rw [era_none hc]
  generalize ho : b.ops.getD k IOp.zero = o
  have hR := opR_parts b k ho
  generalize b.opR k = R at hR ⊢
  refine (kind_spec o).to ?_
  simp only [push_cast, simprocAttr]
  refine ⟨fun hkd => (named_spec o).to ?_, fun hkd => ?_⟩
  · simp only [push_cast, simprocAttr]
    rw [hkd, Bool.true_and] at hR
    refine ⟨fun hnm => ?_, fun hnm => (Uses_spec o).to ?_⟩
    · rw [hR, hnm]; rfl
    · rw [hnm, Bool.true_and] at hR
      have hul := usesN_len o
      simp only [push_cast, simprocAttr]
      refine lpc.rel [1, 2, 5, 25, 26, 27] (fun m ρ h' => ∃ j : Nat, m = (usesN o).length - j ∧ j ≤ (usesN o).length ∧ h = h' ∧ (∀ i, i < j → b.val ((usesN o).getD i 0) k = true) ∧
        ρ = [(1, .int .i64 (k : Int)), (2, .cp [bkP b] 0), (5, .cp o.cells 0), (25, ints (usesN o)), (26, .int .i64 ((usesN o).length : Int)), (27, .int .i64 (j : Int))]) ⟨_, 0, rfl, by omega, rfl, by intro i hi; omega, rfl⟩ ?_
      rintro m _ _ ⟨j, rfl, hj, rfl, hall, rfl⟩
      simp only [push_cast, simprocAttr]
      refine ⟨fun hj2 => ⟨hj2, hj2, (value_spec b _ _).to ?_⟩, fun hj2 => ?_⟩
      · simp (disch := omega) only [push_cast, simprocAttr, wrap_i64, toNat_ofInt64, Nat.min_eq_left, Int.toNat_of_nonneg]
        refine ⟨fun hv => ?_, fun hv => ?_⟩
        · rw [hR, allN_false j hj2 hv]; rfl
        · refine ⟨_, _, by omega, .refl _, j + 1, rfl, by omega, rfl, fun i hi => ?_, rfl⟩
          by_cases hik : i = j
          · subst hik; exact hv
          · exact hall i (by omega)
      · obtain rfl : j = (usesN o).length := by omega
        rw [allN_true hall, Bool.true_and] at hR
        refine ⟨fun h5 => (exit_spec b _ _ hm).to ?_, fun h5 => ⟨fun h4 => ?_, fun h4 => ?_⟩⟩
        · simp only [push_cast, simprocAttr]
          rw [exN, if_pos h5] at hR
          refine ⟨fun g => (exit_spec b _ _ hm).to ?_, fun g => ?_⟩
          · simp only [push_cast, simprocAttr]
            rw [hR, g]; rfl
          · rw [hR, g]; rfl
        · refine ⟨fun _ => (exit_spec b _ _ hm).to ?_, fun h => absurd h4 h⟩
          simp only [push_cast, simprocAttr]
          rw [hR, exN, if_neg h5, if_pos (.inl h4)]
        · refine ⟨fun h6 => (exit_spec b _ _ hm).to ?_, fun h6 => ?_⟩
          · simp only [push_cast, simprocAttr]
            rw [hR, exN, if_neg h5, if_pos (.inr h6)]
          · rw [hR, exN, if_neg h5, if_neg (by omega)]
  · rw [hR, hkd]; rfl
end Go.Ab
