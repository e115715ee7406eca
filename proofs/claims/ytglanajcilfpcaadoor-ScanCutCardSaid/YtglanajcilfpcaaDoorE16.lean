/- The document's memory: asked, and loaded. -/
import Derived.Test.YtglanajcilfpcaaDoorE5
set_option linter.unusedSimpArgs false
set_option linter.unusedVariables false
set_option maxRecDepth 10000
namespace Go.Ab
open Go.Proofs
variable {G : Glo} {h : Heap}
theorem rHas_spec (b : List (BitVec 8)) (addr : BitVec 32) (n : Int) (hb : b.length ≤ 65536) (hn : n ≤ 9223372036854775807) (hn0 : -9223372036854775808 ≤ n) : Spec Tryd.prog G 30 [byt b, .int .u32 addr.toNat, .int .i64 n] h (Is (.bool (hasN b.length addr n)) h) := by
  have hN : hasN b.length addr n = (decide (1 ≤ n) && decide (n ≤ b.length) && decide (2147483648 ≤ addr.toNat) && decide ((addr.toNat : Int) - 2147483648 ≤ b.length - n)) := rfl
  generalize hasN b.length addr n = N at hN ⊢
  have hlt := addr.isLt
  refine Spec.is C30ok rfl ?_
  simp (disch := omega) only [push_cast, simprocAttr, wrap_i64, toNat_ofInt64, Nat.min_eq_left, Int.toNat_of_nonneg, byt]
  rw [hN]
  by_cases h1 : 1 ≤ n
  · rw [wrap_i64 (by omega) (by omega)]
    (first | rfl | (congr 1; done) | (congr 1; rw [Bool.eq_iff_iff]; simp only [Bool.and_eq_true, Bool.or_eq_true, Bool.not_eq_true', decide_eq_true_eq, decide_eq_false_iff_not, Bool.false_eq_true, true_and, and_true]; first | omega | grind))
  · have h2 : ¬ n ≥ 1 := h1
    simp [h1, h2]
theorem rLoad_spec (M : IRam) (addr : BitVec 32) (n : Nat) (hb : M.b.length ≤ 65536) (hn : n = 1 ∨ n = 2 ∨ n = 4) (hh : hasN M.b.length addr n = true) : Spec Tryd.prog G 32 [byt M.b, .int .u32 addr.toNat, .int .i64 n] h (Is (.int .u32 (M.load addr n).toNat) h) := by
  have hlt := addr.isLt
  have hH := hh
  simp only [hasN, Bool.and_eq_true, decide_eq_true_eq] at hH
  obtain ⟨k, hk⟩ : ∃ k, addr.toNat - 2147483648 = k := ⟨_, rfl⟩
  have hk' : (addr.toNat : Int) - 2147483648 = k := by omega
  have q1 : (k : Int) ≤ k + n := by omega
  have q3 : (k : Int) + n ≤ M.b.length := by omega
  have q4 : ((k : Int) + n).toNat - k = n := by omega
  have q5 : List.take n (List.drop k (bys M.b)) = bys ((M.b.drop k).take n) := by rw [bys_drop, bys_take]
  have q6 : ((M.b.drop k).take n).length = n := by simp; omega
  have hl : M.load addr n = BitVec.ofNat 32 (leN ((M.b.drop k).take n)) := by rw [IRam.load, hk]
  rw [hl]
  refine Spec.is C32ok rfl ?_
  simp (disch := omega) only [push_cast, simprocAttr, wrap_i64, toNat_ofInt64, Nat.min_eq_left, Int.toNat_of_nonneg, byt, hk', q4, q5]
  have hS := rNumber_spec (G := G) (h := h) ((M.b.drop k).take n) (by omega)
  rw [byt, q6] at hS
  refine ⟨by omega, hS.to ?_⟩
  simp only [push_cast, simprocAttr]
end Go.Ab
