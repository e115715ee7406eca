/- The laws of eval: a world, and whether a block may be done in it. -/
import Derived.Test.YtjaknpophnolmaaE9
set_option linter.unusedSimpArgs false
set_option linter.unusedVariables false
set_option maxRecDepth 10000
namespace Go.Ab
open Go.Proofs
variable {G : Glo} {h : Heap}
structure IWd where
  regs : List (BitVec 32)
  size : Int
  b : List (BitVec 8)
  w : BitVec 16
def IWd.cells (w : IWd) : List AV := wds w.regs ++ [.int .i64 w.size, byt w.b, .int .u16 w.w.toNat]
theorem wd_at {w : IWd} (hl : w.regs.length = 32) : w.cells.length = 35 ∧ w.cells[32]? = some (.int .i64 w.size) ∧ w.cells[33]? = some (byt w.b) ∧ w.cells[34]? = some (.int .u16 w.w.toNat) ∧ w.cells[0]? = some (.int .u32 (w.regs.getD 0 0#32).toNat) := by
  have hw : (wds w.regs).length = 32 := by simp [wds, hl]
  refine ⟨by simp [IWd.cells, hw], ?_, ?_, ?_, ?_⟩
  · rw [IWd.cells, List.getElem?_append_right (by omega), hw]; rfl
  · rw [IWd.cells, List.getElem?_append_right (by omega), hw]; rfl
  · rw [IWd.cells, List.getElem?_append_right (by omega), hw]; rfl
  · rw [IWd.cells, List.getElem?_append_left (by omega), wds_get, if_pos (by omega)]
def lightW (b : IBk) (w : IWd) : Bool := !(decide (b.pcs.length > 100) || decide (b.ops.length > 600) || decide (b.exits.length > 200) || !rightN w.size || decide (w.size > 1024) || decide ((w.b.length : Int) > w.size) || (w.regs.getD 0 0#32 != 0#32))
def light24 (b : IBk) (w : IWd) : Bool := lightW b w && allN b.exits.length fun i => decide ((b.exits.getD i IEx.zero).map.length ≤ 100)
theorem lightW_iff (b : IBk) (w : IWd) : lightW b w = true ↔ b.pcs.length ≤ 100 ∧ b.ops.length ≤ 600 ∧ b.exits.length ≤ 200 ∧ rightN w.size = true ∧ w.size ≤ 1024 ∧ (w.b.length : Int) ≤ w.size ∧ w.regs.getD 0 0#32 = 0#32 := by
  simp only [lightW, Bool.not_eq_true', Bool.or_eq_false_iff, decide_eq_false_iff_not, bne_eq_false_iff_eq, Bool.not_eq_false']
  constructor
  · rintro ⟨⟨⟨⟨⟨⟨h1, h2⟩, h3⟩, h4⟩, h5⟩, h6⟩, h7⟩
    exact ⟨by omega, by omega, by omega, h4, by omega, by omega, h7⟩
  · rintro ⟨h1, h2, h3, h4, h5, h6, h7⟩
    exact ⟨⟨⟨⟨⟨⟨by omega, by omega⟩, by omega⟩, h4⟩, by omega⟩, by omega⟩, h7⟩
theorem bv0 (x : BitVec 32) : ((x.toNat : Int) = 0) ↔ x = 0#32 := by
  constructor
  · intro h
    apply BitVec.eq_of_toNat_eq
    simp; omega
  · rintro rfl; rfl
theorem rRight10_spec (n : Int) : Spec Try.prog G 28 [.int .i64 n] h (Is (.bool (rightN n)) h) := by
  have hN : rightN n = (decide (64 ≤ n) && decide (n ≤ 65536) && decide (n % 64 = 0)) := rfl
  generalize rightN n = N at hN ⊢
  refine Spec.is C28ok rfl ?_
  simp only [push_cast, simprocAttr]
  rw [hN]
  by_cases h64 : 64 ≤ n
  · rw [Int.tmod_eq_emod_of_nonneg (by omega)]
    (first | rfl | (congr 1; done) | (congr 1; rw [Bool.eq_iff_iff]; simp only [Bool.and_eq_true, Bool.or_eq_true, Bool.not_eq_true', decide_eq_true_eq, decide_eq_false_iff_not, Bool.false_eq_true, true_and, and_true]; first | omega | grind))
  · have : ¬ n ≥ 64 := h64
    simp [h64, this]
theorem light24_spec (b : IBk) (w : IWd) (he : b.exits.length ≤ 9223372036854775807) (hl : w.regs.length = 32) : Spec Try.prog G 10 [.agg b.cells, .agg w.cells] h (Is (.bool (light24 b w)) h) := by
  obtain ⟨w0, w32, w33, w34, wr⟩ := wd_at hl
  have hW := lightW_iff b w
  have hL : light24 b w = (lightW b w && allN b.exits.length fun i => decide ((b.exits.getD i IEx.zero).map.length ≤ 100)) := rfl
  have hb0 := bv0 (w.regs.getD 0 0#32)
  generalize light24 b w = L at hL ⊢
  generalize lightW b w = L1 at hW hL
  have no : L1 ≠ true → AV.bool false = AV.bool L := fun hn => by
    rw [hL, Bool.eq_false_iff.2 hn]; rfl
  refine Spec.is C10ok rfl ?_
  simp only [push_cast, simprocAttr, w32, w33, w34, wr, w0]
  refine ⟨fun h1 => ?_, fun h1 => ?_⟩
  · refine (rRight10_spec w.size).to ?_
    simp only [push_cast, simprocAttr, w32, w33, w34, wr, w0]
    refine ⟨fun h2 => ⟨fun h3 => ?_, fun h3 => ?_⟩, fun h2 => ?_⟩
    · exact no fun e => by have := hW.1 e; rw [hb0] at h3; exact h3 this.2.2.2.2.2.2
    · have : L1 = true := hW.2 ⟨by omega, by omega, by omega, h2.1.1, by omega, by omega, hb0.1 h3⟩
      rw [this, Bool.true_and] at hL
      refine lpc.rel [2, 5] (fun m ρ h' => ∃ k : Nat, m = b.exits.length - k ∧ k ≤ b.exits.length ∧ h = h' ∧ (∀ i, i < k → decide ((b.exits.getD i IEx.zero).map.length ≤ 100) = true) ∧
        ρ = [(2, .cp b.cells 0), (5, .int .i64 (k : Int))]) ⟨_, 0, rfl, by omega, rfl, by intro i hi; omega, rfl⟩ ?_
      rintro m _ _ ⟨k, rfl, hk, rfl, hall, rfl⟩
      simp only [push_cast, simprocAttr]
      refine ⟨fun hk2 => ⟨hk2, hk2, fun hv => ?_, fun hv => ?_⟩, fun hk2 => ?_⟩
      · rw [hL, allN_false k hk2 (decide_eq_false (by omega))]
      · simp (disch := omega) only [push_cast, simprocAttr, wrap_i64, toNat_ofInt64, Nat.min_eq_left, Int.toNat_of_nonneg]
        refine ⟨_, _, by omega, .refl _, k + 1, rfl, by omega, rfl, fun i hi => ?_, rfl⟩
        by_cases hik : i = k
        · subst hik; omega
        · exact of_decide_eq_true (hall i (by omega))
      · obtain rfl : k = b.exits.length := by omega
        rw [hL, allN_true hall]
    · refine no fun e => ?_
      obtain ⟨e1, e2, e3, e4, e5, e6, e7⟩ := hW.1 e
      rcases h2 with (h2 | h2) | h2
      · rw [e4] at h2; cases h2
      · omega
      · omega
  · refine no fun e => ?_
    obtain ⟨e1, e2, e3, e4, e5, e6, e7⟩ := hW.1 e
    omega
theorem light24_facts {b : IBk} {w : IWd} (h : light24 b w = true) : b.wf ∧ b.ops.length ≤ 600 ∧ b.exits.length ≤ 200 ∧ b.pcs.length ≤ 100 ∧ (∀ e ∈ b.exits, e.map.length ≤ 100) ∧ ∃ n : Nat, w.size = n ∧ rightN n = true ∧ n ≤ 1024 ∧ w.b.length ≤ n ∧ w.regs.getD 0 0#32 = 0#32 := by
  simp only [light24, Bool.and_eq_true] at h
  obtain ⟨h1, h2⟩ := h
  obtain ⟨e1, e2, e3, e4, e5, e6, e7⟩ := (lightW_iff b w).1 h1
  have hm : ∀ e ∈ b.exits, e.map.length ≤ 100 := by
    intro e he
    obtain ⟨i, hi, rfl⟩ := List.getElem_of_mem he
    have := allN_get h2 i hi
    simpa [hi] using this
  have e4' := e4
  simp only [rightN, Bool.and_eq_true, decide_eq_true_eq] at e4'
  obtain ⟨n, hn⟩ : ∃ n : Nat, w.size = n := ⟨w.size.toNat, by omega⟩
  refine ⟨⟨by omega, by omega, by omega, fun e he => by have := hm e he; omega, by omega, by omega, by omega, fun e he => by have := hm e he; omega⟩, e2, e3, e1, hm, n, hn, hn ▸ e4, by omega, by omega, e7⟩
end Go.Ab
