/- A word's instruction is right: the program's judgement. -/
import Derived.Test.YtglanajcilfpcaaDoorH3
set_option linter.unusedSimpArgs false
set_option linter.unusedVariables false
set_option maxRecDepth 10000
namespace Go.Ab
open Go.Proofs
variable {G : Glo} {h : Heap}
theorem ofInt_cg {x : Int} {y : Int} (m : Int) (h : x = y + m * 4294967296) : BitVec.ofInt 32 x = BitVec.ofInt 32 y := by
  apply BitVec.eq_of_toNat_eq
  rw [BitVec.toNat_ofInt, BitVec.toNat_ofInt]
  omega
theorem sx_c (m P H : Nat) (q : Int) (hP : P = 2 * H) (hm : m < P) (hq : q = if H ≤ m then (m : Int) - P else m) (hle : P ≤ 4294967296) : BitVec.ofInt 32 q = BitVec.ofNat 32 (if H ≤ m then m + 4294967296 - P else m) := by
  subst hq
  split
  · exact (ofInt_cg (y := ((m + 4294967296 - P : Nat) : Int)) (-1) (by omega)).trans (BitVec.ofInt_natCast ..)
  · exact BitVec.ofInt_natCast ..
theorem sx12 (w : BitVec 32) : BitVec.ofInt 32 ((w <<< 20).toInt.fdiv (2 ^ 20)) = BitVec.ofNat 32 (extN w.toNat 12) := by
  have h1 := BitVec.toInt_eq_toNat_cond (w <<< 20)
  rw [BitVec.toNat_shiftLeft, Nat.shiftLeft_eq] at h1
  refine sx_c (w.toNat % 4096) 4096 2048 _ rfl (Nat.mod_lt _ (by omega)) ?_ (by omega)
  rw [pow_int, Int.fdiv_eq_ediv_of_nonneg _ (Int.natCast_nonneg _), h1]
  split <;> split <;> omega
theorem sx13 (w : BitVec 32) : BitVec.ofInt 32 ((w <<< 19).toInt.fdiv (2 ^ 19)) = BitVec.ofNat 32 (extN w.toNat 13) := by
  have h1 := BitVec.toInt_eq_toNat_cond (w <<< 19)
  rw [BitVec.toNat_shiftLeft, Nat.shiftLeft_eq] at h1
  refine sx_c (w.toNat % 8192) 8192 4096 _ rfl (Nat.mod_lt _ (by omega)) ?_ (by omega)
  rw [pow_int, Int.fdiv_eq_ediv_of_nonneg _ (Int.natCast_nonneg _), h1]
  split <;> split <;> omega
theorem sx21 (w : BitVec 32) : BitVec.ofInt 32 ((w <<< 11).toInt.fdiv (2 ^ 11)) = BitVec.ofNat 32 (extN w.toNat 21) := by
  have h1 := BitVec.toInt_eq_toNat_cond (w <<< 11)
  rw [BitVec.toNat_shiftLeft, Nat.shiftLeft_eq] at h1
  refine sx_c (w.toNat % 2097152) 2097152 1048576 _ rfl (Nat.mod_lt _ (by omega)) ?_ (by omega)
  rw [pow_int, Int.fdiv_eq_ediv_of_nonneg _ (Int.natCast_nonneg _), h1]
  split <;> split <;> omega
theorem isigned_spec (x : BitVec 32) (k : Nat) (hk : k = 12 ∨ k = 13 ∨ k = 21) (hx : BitVec.ofNat 32 (extN x.toNat k) = x) : Spec Tryd.prog G 100 [.int .u32 x.toNat, .int .i64 k] h (Is (.bool true) h) := by
  rcases hk with rfl | rfl | rfl
  · have e := sx12 x
    rw [hx] at e
    have m : min (BitVec.ofInt 64 (IntKind.i64.wrap 20)).toNat 32 = 20 := rfl
    rw [show x <<< 20 = x * 1048576#32 by apply BitVec.eq_of_toNat_eq; simp [Nat.shiftLeft_eq], show (2 : Int) ^ 20 = 1048576 by decide] at e
    refine Spec.is C100ok rfl ?_
    simp only [push_cast, simprocAttr, m]
    rw [e]
    simp
  · have e := sx13 x
    rw [hx] at e
    have m : min (BitVec.ofInt 64 (IntKind.i64.wrap 19)).toNat 32 = 19 := rfl
    rw [show x <<< 19 = x * 524288#32 by apply BitVec.eq_of_toNat_eq; simp [Nat.shiftLeft_eq], show (2 : Int) ^ 19 = 524288 by decide] at e
    refine Spec.is C100ok rfl ?_
    simp only [push_cast, simprocAttr, m]
    rw [e]
    simp
  · have e := sx21 x
    rw [hx] at e
    have m : min (BitVec.ofInt 64 (IntKind.i64.wrap 11)).toNat 32 = 11 := rfl
    rw [show x <<< 11 = x * 2048#32 by apply BitVec.eq_of_toNat_eq; simp [Nat.shiftLeft_eq], show (2 : Int) ^ 11 = 2048 by decide] at e
    refine Spec.is C100ok rfl ?_
    simp only [push_cast, simprocAttr, m]
    rw [e]
    simp
/-- What an immediate number that a word has is like. -/
theorem immN_12 (w : BitVec 32) (f : Nat) (hf : f = 3 ∨ f = 5) : BitVec.ofNat 32 (extN (immN w f).toNat 12) = immN w f := by
  have key : ∀ n, n < 4096 → BitVec.ofNat 32 (extN (BitVec.ofNat 32 (extN n 12)).toNat 12) = BitVec.ofNat 32 (extN n 12) := by
    intro n hn
    have h1 : extN n 12 < 4294967296 := by have := extN_lt n 12 (by omega); omega
    rw [ofNat_toNat32 h1]
    congr 1
    unfold extN
    simp only [Nat.reduceSub, Nat.reducePow]
    (repeat' split) <;> omega
  rcases hf with rfl | rfl
  · exact key _ (by have := fld_lt w 20 12; omega)
  · exact key _ (by have := fld_lt w 25 7; have := fld_lt w 7 5; omega)
theorem immN_13 (w : BitVec 32) : BitVec.ofNat 32 (extN (immN w 4).toNat 13) = immN w 4 ∧ (immN w 4).toNat % 2 = 0 := by
  have key : ∀ n, n < 8192 → n % 2 = 0 → BitVec.ofNat 32 (extN (BitVec.ofNat 32 (extN n 13)).toNat 13) = BitVec.ofNat 32 (extN n 13) ∧ (BitVec.ofNat 32 (extN n 13)).toNat % 2 = 0 := by
    intro n hn he
    have h1 : extN n 13 < 4294967296 := by have := extN_lt n 13 (by omega); omega
    rw [ofNat_toNat32 h1]
    refine ⟨?_, ?_⟩
    · congr 1
      unfold extN
      simp only [Nat.reduceSub, Nat.reducePow]
      (repeat' split) <;> omega
    · unfold extN
      simp only [Nat.reduceSub, Nat.reducePow]
      split <;> omega
  have a1 := fld_lt w 7 1
  have a2 := fld_lt w 25 6
  have a3 := fld_lt w 8 4
  have a4 := fld_lt w 31 1
  exact key (((fld w 31 1 * 2 + fld w 7 1) * 64 + fld w 25 6) * 32 + fld w 8 4 * 2) (by omega) (by omega)
theorem immN_21 (w : BitVec 32) : BitVec.ofNat 32 (extN (immN w 2).toNat 21) = immN w 2 ∧ (immN w 2).toNat % 2 = 0 := by
  have key : ∀ n, n < 2097152 → n % 2 = 0 → BitVec.ofNat 32 (extN (BitVec.ofNat 32 (extN n 21)).toNat 21) = BitVec.ofNat 32 (extN n 21) ∧ (BitVec.ofNat 32 (extN n 21)).toNat % 2 = 0 := by
    intro n hn he
    have h1 : extN n 21 < 4294967296 := by have := extN_lt n 21 (by omega); omega
    rw [ofNat_toNat32 h1]
    refine ⟨?_, ?_⟩
    · congr 1
      unfold extN
      simp only [Nat.reduceSub, Nat.reducePow]
      (repeat' split) <;> omega
    · unfold extN
      simp only [Nat.reduceSub, Nat.reducePow]
      split <;> omega
  have a1 := fld_lt w 12 8
  have a2 := fld_lt w 20 1
  have a3 := fld_lt w 21 10
  have a4 := fld_lt w 31 1
  exact key (((fld w 31 1 * 256 + fld w 12 8) * 2 + fld w 20 1) * 2048 + fld w 21 10 * 2) (by omega) (by omega)
theorem ieven_spec (x : BitVec 32) (k : Nat) (hk : k = 13 ∨ k = 21) (hx : BitVec.ofNat 32 (extN x.toNat k) = x) (he : x.toNat % 2 = 0) : Spec Tryd.prog G 99 [.int .u32 x.toNat, .int .i64 k] h (Is (.bool true) h) := by
  have hs := isigned_spec (G := G) (h := h) x k (by omega) hx
  have e1 : (x &&& 1#32).toNat = 0 := by
    have := and_mod x 1 (by omega)
    simp at this ⊢
    omega
  have e2 : x &&& 1#32 = 0#32 := BitVec.eq_of_toNat_eq e1
  refine Spec.is C99ok rfl ?_
  simp only [push_cast, simprocAttr, e2]
  refine hs.to ?_
  simp only [push_cast, simprocAttr]
theorem inumber_spec (w : BitVec 32) (f : Nat) (hf : f ≤ 9) : Spec Tryd.prog G 69 [.int .u32 (immN w f).toNat, .int .i64 f] h (Is (.bool true) h) := by
  have hf' : f = 0 ∨ f = 1 ∨ f = 2 ∨ f = 3 ∨ f = 4 ∨ f = 5 ∨ f = 6 ∨ f = 7 ∨ f = 8 ∨ f = 9 := by omega
  rcases hf' with rfl | rfl | rfl | rfl | rfl | rfl | rfl | rfl | rfl | rfl
  · refine Spec.is C69ok rfl ?_
    simp only [push_cast, simprocAttr]
  · have hU : immN w 1 &&& 4095#32 = 0#32 := by
      rw [← immU]
      apply BitVec.eq_of_getLsbD_eq
      intro i hi
      simp only [BitVec.getLsbD_and, BitVec.getLsbD_not]
      simp
    generalize immN w 1 = x at *
    refine Spec.is C69ok rfl ?_
    simp only [push_cast, simprocAttr, hU]
  · obtain ⟨e1, e2⟩ := immN_21 w
    have := ieven_spec (G := G) (h := h) _ 21 (.inr rfl) e1 e2
    generalize immN w 2 = x at *
    refine Spec.is C69ok rfl ?_
    simp only [push_cast, simprocAttr]
    refine this.to ?_
    simp only [push_cast, simprocAttr]
  · have := isigned_spec (G := G) (h := h) _ 12 (.inl rfl) (immN_12 w 3 (.inl rfl))
    generalize immN w 3 = x at *
    refine Spec.is C69ok rfl ?_
    simp only [push_cast, simprocAttr]
    refine this.to ?_
    simp only [push_cast, simprocAttr]
  · obtain ⟨e1, e2⟩ := immN_13 w
    have := ieven_spec (G := G) (h := h) _ 13 (.inl rfl) e1 e2
    generalize immN w 4 = x at *
    refine Spec.is C69ok rfl ?_
    simp only [push_cast, simprocAttr]
    refine this.to ?_
    simp only [push_cast, simprocAttr]
  · have := isigned_spec (G := G) (h := h) _ 12 (.inl rfl) (immN_12 w 5 (.inr rfl))
    generalize immN w 5 = x at *
    refine Spec.is C69ok rfl ?_
    simp only [push_cast, simprocAttr]
    refine this.to ?_
    simp only [push_cast, simprocAttr]
  · refine Spec.is C69ok rfl ?_
    simp only [push_cast, simprocAttr]
  · have hl : (immN w 7).toNat ≤ 31 := by
      have := fld_lt w 20 5
      have hN : immN w 7 = BitVec.ofNat 32 (fld w 20 5) := rfl
      rw [hN, ofNat_toNat32 (by omega)]; omega
    generalize immN w 7 = x at *
    refine Spec.is C69ok rfl ?_
    simp only [push_cast, simprocAttr]
    simp; omega
  · refine Spec.is C69ok rfl ?_
    simp only [push_cast, simprocAttr]
  · have hl : (immN w 9).toNat ≤ 31 := by
      have := fld_lt w 15 5
      have hN : immN w 9 = BitVec.ofNat 32 (fld w 15 5) := rfl
      rw [hN, ofNat_toNat32 (by omega)]; omega
    generalize immN w 9 = x at *
    refine Spec.is C69ok rfl ?_
    simp only [push_cast, simprocAttr]
    simp; omega
end Go.Ab
