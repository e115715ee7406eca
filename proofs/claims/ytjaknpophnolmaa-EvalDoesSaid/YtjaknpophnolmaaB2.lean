/- Contracts: small ones of blocks. -/
import Derived.Test.YtjaknpophnolmaaB1
import Derived.Test.YtjaknpophnolmaaC24
import Derived.Test.YtjaknpophnolmaaC241
set_option linter.unusedSimpArgs false
set_option linter.unusedVariables false
namespace Go.Ab
open Go.Proofs
variable {G : Glo} {h : Heap}
theorem rHas7_spec (n : Int) : Spec Try.prog G 24 [.int .i64 n] h (Is (.bool (decide (19 ≤ n) && decide (n ≤ 37))) h) := by
  refine Spec.is C24ok rfl ?_
  simp only [push_cast, simprocAttr]
theorem rHas8_spec (n : Int) : Spec Try.prog G 25 [.int .i64 n] h (Is (.bool (decide (50 ≤ n) && decide (n ≤ 57))) h) := by
  refine Spec.is C25ok rfl ?_
  simp only [push_cast, simprocAttr]
theorem aHas_spec (n : Int) : Spec Try.prog G 48 [.int .i64 n] h (Is (.bool (decide (19 ≤ n) && decide (n ≤ 37))) h) := by
  refine Spec.is C48ok rfl ?_
  simp only [push_cast, simprocAttr]
theorem mHas_spec (n : Int) : Spec Try.prog G 49 [.int .i64 n] h (Is (.bool (decide (50 ≤ n) && decide (n ≤ 57))) h) := by
  refine Spec.is C49ok rfl ?_
  simp only [push_cast, simprocAttr]
theorem rReckons_spec (n : Int) : Spec Try.prog G 8 [.int .i64 n] h (Is (.bool (reckonsN n)) h) := by
  refine Spec.is C8ok rfl ?_
  simp only [push_cast, simprocAttr]
  refine (rHas7_spec n).to ?_
  simp only [push_cast, simprocAttr, reckonsN]
  refine ⟨fun h1 => (rHas8_spec n).to ?_, fun h1 => ?_⟩
  · simp only [push_cast, simprocAttr]
    rw [h1]; rfl
  · (first | rfl | (congr 1; done) | (congr 1; rw [Bool.eq_iff_iff]; simp only [Bool.and_eq_true, Bool.or_eq_true, Bool.not_eq_true', decide_eq_true_eq, decide_eq_false_iff_not, Bool.false_eq_true, true_and, and_true]; first | omega | grind))
theorem Reckons_spec (n : Int) : Spec Try.prog G 20 [.int .i64 n] h (Is (.bool (reckonsN n)) h) := by
  refine Spec.is C20ok rfl ?_
  simp only [push_cast, simprocAttr]
  refine (aHas_spec n).to ?_
  simp only [push_cast, simprocAttr, reckonsN]
  refine ⟨fun h1 => (mHas_spec n).to ?_, fun h1 => ?_⟩
  · simp only [push_cast, simprocAttr]
    rw [h1]; rfl
  · (first | rfl | (congr 1; done) | (congr 1; rw [Bool.eq_iff_iff]; simp only [Bool.and_eq_true, Bool.or_eq_true, Bool.not_eq_true', decide_eq_true_eq, decide_eq_false_iff_not, Bool.false_eq_true, true_and, and_true]; first | omega | grind))
theorem rLoads_spec (n : Int) : Spec Try.prog G 39 [.int .i64 n] h (Is (.int .i64 (loadsN n)) h) := by
  refine Spec.is C39ok rfl ?_
  simp only [push_cast, simprocAttr, loadsN]
  grind
theorem Loads_spec (n : Int) : Spec Try.prog G 84 [.int .i64 n] h (Is (.int .i64 (loadsN n)) h) := by
  refine Spec.is C84ok rfl ?_
  simp only [push_cast, simprocAttr, loadsN]
  (repeat' (first | apply And.intro | intro _)) <;> simp_all
theorem rStores_spec (n : Int) : Spec Try.prog G 44 [.int .i64 n] h (Is (.int .i64 (storesN n)) h) := by
  refine Spec.is C44ok rfl ?_
  simp only [push_cast, simprocAttr, storesN]
  grind
theorem Stores_spec (n : Int) : Spec Try.prog G 87 [.int .i64 n] h (Is (.int .i64 (storesN n)) h) := by
  refine Spec.is C87ok rfl ?_
  simp only [push_cast, simprocAttr, storesN]
  grind
theorem Valued_spec (n : Int) : Spec Try.prog G 101 [.int .i64 n] h (Is (.bool (decide (1 ≤ n) && decide (n ≤ 4))) h) := by
  refine Spec.is C101ok rfl ?_
  simp only [push_cast, simprocAttr]
theorem rValue_spec (b : IBk) (n ahead : Int) : Spec Try.prog G 62 [.agg b.cells, .int .i64 n, .int .i64 ahead] h (Is (.bool (b.val n ahead)) h) := by
  refine Spec.is C62ok rfl ?_
  simp only [push_cast, simprocAttr]
  refine ⟨fun h1 => ?_, fun h1 => ?_⟩
  · have e : n.toNat < b.ops.length := by omega
    refine ⟨by omega, e, fun h2 => ⟨by omega, e, ?_⟩, fun h2 => ?_⟩
    all_goals simp only [IBk.val, IBk.op]
    · (first | rfl | (congr 1; done) | (congr 1; rw [Bool.eq_iff_iff]; simp only [Bool.and_eq_true, Bool.or_eq_true, Bool.not_eq_true', decide_eq_true_eq, decide_eq_false_iff_not, Bool.false_eq_true, true_and, and_true]; first | omega | grind))
    · (first | rfl | (congr 1; done) | (congr 1; rw [Bool.eq_iff_iff]; simp only [Bool.and_eq_true, Bool.or_eq_true, Bool.not_eq_true', decide_eq_true_eq, decide_eq_false_iff_not, Bool.false_eq_true, true_and, and_true]; first | omega | grind))
  · simp only [IBk.val]; rw [h1]; rfl
theorem value_spec (b : IBk) (n ahead : Int) : Spec Try.prog G 93 [.agg [bkP b], .int .i64 n, .int .i64 ahead] h (Is (.bool (b.val n ahead)) h) := by
  refine Spec.is C93ok rfl ?_
  simp only [push_cast, simprocAttr, bkP]
  refine ⟨fun h1 => ⟨by omega, by omega, ?_⟩, fun h1 => ?_⟩
  · refine (Valued_spec _).to ?_
    simp only [push_cast, simprocAttr]
    simp only [IBk.val, IBk.op]
    (first | rfl | (congr 1; done) | (congr 1; rw [Bool.eq_iff_iff]; simp only [Bool.and_eq_true, Bool.or_eq_true, Bool.not_eq_true', decide_eq_true_eq, decide_eq_false_iff_not, Bool.false_eq_true, true_and, and_true]; first | omega | grind))
  · simp only [IBk.val]; rw [h1]; rfl
theorem getD_map {b : IBk} {n M : Nat} (hm : ∀ e ∈ b.exits, e.map.length ≤ M) : (b.exits.getD n IEx.zero).map.length ≤ M := by
  by_cases hn : n < b.exits.length
  · have : b.exits.getD n IEx.zero = b.exits[n] := by simp [hn]
    rw [this]
    exact hm _ (List.getElem_mem _)
  · have : b.exits.getD n IEx.zero = IEx.zero := by simp [Nat.not_lt.1 hn]
    rw [this]
    simp [IEx.zero]
theorem rexit_spec (b : IBk) (n ahead : Int) (hm : ∀ e ∈ b.exits, e.map.length ≤ 140737488355328) : Spec Try.prog G 31 [.agg b.cells, .int .i64 n, .int .i64 ahead] h (Is (.bool (b.exit n ahead)) h) := by
  refine Spec.is C31ok rfl ?_
  simp only [push_cast, simprocAttr]
  refine ⟨fun h1 => ?_, fun h1 => ⟨by omega, by omega, fun c hc => ?_⟩⟩
  · simp only [IBk.exit]
    (first | rfl | (congr 1; done) | (congr 1; rw [Bool.eq_iff_iff]; simp only [Bool.and_eq_true, Bool.or_eq_true, Bool.not_eq_true', decide_eq_true_eq, decide_eq_false_iff_not, Bool.false_eq_true, true_and, and_true]; first | omega | grind))
  · rw [era_none hc]
    have hl := getD_map (n := n.toNat) hm
    have hE : b.exit n ahead = ((decide ((b.ex n.toNat).to = -1) || b.val (b.ex n.toNat).to ahead) && allN (b.ex n.toNat).map.length fun i => b.val ((b.ex n.toNat).vl i).val ahead) := by
      simp only [IBk.exit]
      rw [decide_eq_true (by omega), decide_eq_true (by omega)]
      simp
    rw [hE]
    clear hE
    generalize hEx : b.ex n.toNat = e
    have hEy : b.exits.getD n.toNat IEx.zero = e := hEx
    rw [hEy] at hl ⊢
    refine lpc.rel [2, 3, 7, 8] (fun m ρ h' => ∃ k : Nat, m = e.map.length - k ∧ k ≤ e.map.length ∧ h = h' ∧ (∀ i, i < k → b.val (e.vl i).val ahead = true) ∧
      ρ = [(2, .int .i64 ahead), (3, .cp b.cells 0), (7, .cp e.cells 0), (8, .int .i64 (k : Int))]) ⟨_, 0, rfl, by omega, rfl, by intro i hi; omega, rfl⟩ ?_
    rintro m _ _ ⟨k, rfl, hk, rfl, hall, rfl⟩
    simp only [push_cast, simprocAttr]
    refine ⟨fun hk2 => ⟨by omega, by omega, (rValue_spec b _ ahead).to ?_⟩, fun hk2 => ?_⟩
    · simp (disch := omega) only [push_cast, simprocAttr, wrap_i64, toNat_ofInt64, Nat.min_eq_left, Int.toNat_of_nonneg]
      refine ⟨fun hv => ?_, fun hv => ?_⟩
      · rw [allN_false k hk2 hv, Bool.and_false]
      · refine ⟨_, _, by omega, .refl _, k + 1, rfl, by omega, rfl, fun i hi => ?_, rfl⟩
        by_cases hik : i = k
        · subst hik; exact hv
        · exact hall i (by omega)
    · obtain rfl : k = e.map.length := by omega
      rw [allN_true hall, Bool.and_true]
      refine ⟨fun h2 => (rValue_spec b _ ahead).to ?_, fun h2 => ?_⟩
      · simp only [push_cast, simprocAttr]
        rw [decide_eq_false h2, Bool.false_or]
      · rw [decide_eq_true h2, Bool.true_or]
theorem exitF_spec (b : IBk) (v : IVl) (ahead : Int) : Spec Try.prog G 96 [.agg v.cells, .cp [bkP b] 0, .cp [.int .i64 ahead] 0] h (Is (.bool (! b.val v.val ahead)) h) := by
  refine Spec.is C96ok rfl ?_
  simp only [push_cast, simprocAttr]
  refine (value_spec b _ ahead).to ?_
  simp only [push_cast, simprocAttr]
theorem indexV_spec (b : IBk) (l : List IVl) (ahead : Int) (hl : l.length ≤ 140737488355328) : Spec Try.prog G 102 [vls l, .fn 96 [] [.cp [bkP b] 0, .cp [.int .i64 ahead] 0]] h
    (fun r h' => h = h' ∧ ∃ j : Int, r = .int .i64 j ∧ (decide (j ≥ 0) = ! allN l.length fun i => b.val (l.getD i IVl.zero).val ahead)) := by
  refine Spec.drop (Spec.mono (Q := fun r h' => Sub h h' ∧ ∃ j : Int, r = .int .i64 j ∧ (decide (j ≥ 0) = ! allN l.length fun i => b.val (l.getD i IVl.zero).val ahead)) ?_ fun r h' hq => ⟨h, hq.1, rfl, hq.2⟩)
  refine Spec.walk C102ok rfl ?_
  simp only [push_cast, simprocAttr]
  refine lpc.rel [0, 1, 7, 8] (fun m ρ h' => ∃ k : Nat, m = l.length - k ∧ k ≤ l.length ∧ h = h' ∧ (∀ i, i < k → b.val (l.getD i IVl.zero).val ahead = true) ∧
    ρ = [(0, vls l), (1, .fn 96 [] [.cp [bkP b] 0, .cp [.int .i64 ahead] 0]), (7, .int .i64 (l.length : Int)), (8, .int .i64 (k : Int))]) ⟨_, 0, rfl, by omega, rfl, by intro i hi; omega, rfl⟩ ?_
  rintro m _ _ ⟨k, rfl, hk, rfl, hall, rfl⟩
  simp only [push_cast, simprocAttr]
  refine ⟨fun hk2 => ⟨hk2, hk2, ⟨_, C96ok.hf, rfl, rfl⟩, (exitF_spec b _ ahead).to ?_⟩, fun hk2 => ?_⟩
  · simp (disch := omega) only [push_cast, simprocAttr, wrap_i64, toNat_ofInt64, Nat.min_eq_left, Int.toNat_of_nonneg]
    refine ⟨fun hv => ?_, fun hv => ?_⟩
    · rw [allN_false k hk2 hv]
      refine ⟨(k : Int), rfl, by simp⟩
    · refine ⟨_, _, by omega, .refl _, k + 1, rfl, by omega, rfl, fun i hi => ?_, rfl⟩
      by_cases hik : i = k
      · subst hik; exact hv
      · exact hall i (by omega)
  · obtain rfl : k = l.length := by omega
    rw [allN_true hall]
    exact ⟨-1, rfl, rfl⟩
theorem containsV_spec (b : IBk) (l : List IVl) (ahead : Int) (hl : l.length ≤ 140737488355328) : Spec Try.prog G 95 [vls l, .fn 96 [] [.cp [bkP b] 0, .cp [.int .i64 ahead] 0]] h (Is (.bool (! allN l.length fun i => b.val (l.getD i IVl.zero).val ahead)) h) := by
  refine Spec.is C95ok rfl ?_
  simp only [push_cast, simprocAttr]
  refine (indexV_spec b l ahead hl).mono ?_
  rintro _ _ ⟨rfl, j, rfl, hj⟩
  simp only [push_cast, simprocAttr]
  rw [hj]
theorem exit_spec (b : IBk) (n ahead : Int) (hm : ∀ e ∈ b.exits, e.map.length ≤ 140737488355328) : Spec Try.prog G 82 [.agg [bkP b], .int .i64 n, .int .i64 ahead] h (Is (.bool (b.exit n ahead)) h) := by
  refine Spec.is C82ok rfl ?_
  simp only [push_cast, simprocAttr]
  refine ⟨fun h1 => ?_, fun h1 => ⟨by omega, by omega, fun c hc => ?_⟩⟩
  · simp only [IBk.exit]
    (first | rfl | (congr 1; done) | (congr 1; rw [Bool.eq_iff_iff]; simp only [Bool.and_eq_true, Bool.or_eq_true, Bool.not_eq_true', decide_eq_true_eq, decide_eq_false_iff_not, Bool.false_eq_true, true_and, and_true]; first | omega | grind))
  · rw [era_none hc]
    have hl := getD_map (n := n.toNat) hm
    have hE : b.exit n ahead = ((decide ((b.ex n.toNat).to = -1) || b.val (b.ex n.toNat).to ahead) && allN (b.ex n.toNat).map.length fun i => b.val ((b.ex n.toNat).vl i).val ahead) := by
      simp only [IBk.exit]
      rw [decide_eq_true (by omega), decide_eq_true (by omega)]
      simp
    rw [hE]
    clear hE
    generalize hEx : b.ex n.toNat = e
    have hEy : b.exits.getD n.toNat IEx.zero = e := hEx
    rw [hEy] at hl ⊢
    have hA : (allN e.map.length fun i => b.val (e.map.getD i IVl.zero).val ahead) = allN e.map.length fun i => b.val (e.vl i).val ahead := rfl
    refine ⟨fun h2 => (value_spec b _ ahead).to ?_, fun h2 => (containsV_spec b e.map ahead hl).to ?_⟩
    · simp only [push_cast, simprocAttr]
      refine ⟨fun h3 => ?_, fun h3 => (containsV_spec b e.map ahead hl).to ?_⟩
      · rw [decide_eq_false h2, h3]; rfl
      · simp only [push_cast, simprocAttr]
        rw [decide_eq_false h2, h3, hA, Bool.not_not]; rfl
    · simp only [push_cast, simprocAttr]
      rw [decide_eq_true h2, hA, Bool.not_not]; rfl
end Go.Ab
