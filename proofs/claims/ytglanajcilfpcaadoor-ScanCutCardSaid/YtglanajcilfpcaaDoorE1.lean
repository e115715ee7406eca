/- Contracts: words as signed numbers, and what the document says of them. -/
import Derived.Test.YtglanajcilfpcaaDoorR0

import Derived.Test.YtglanajcilfpcaaDoorD0
set_option linter.unusedSimpArgs false
set_option linter.unusedVariables false
set_option maxRecDepth 10000
namespace Go.Ab
open Go.Proofs
variable {G : Glo} {h : Heap}
@[push_cast] theorem i32_wrap (x : BitVec 32) : IntKind.i32.wrap (x.toNat : Int) = x.toInt := by
  have := x.isLt
  rw [BitVec.toInt_eq_toNat_cond]
  simp only [IntKind.wrap, IntKind.signed, IntKind.bits]
  simp
  split <;> omega
@[push_cast] theorem bits_i32 : IntKind.i32.bits = 32 := rfl
theorem Signed_spec (w : BitVec 32) : Spec Tryd.prog G 105 [.int .u32 w.toNat] h (Is (.int .i64 w.toInt) h) := by
  refine Spec.is C105ok rfl ?_
  have hw := w.isLt
  have h1 := BitVec.toInt_eq_toNat_cond w
  simp (disch := omega) only [push_cast, simprocAttr, wrap_i64, toNat_ofInt64, Nat.min_eq_left, Int.toNat_of_nonneg]
  refine ⟨fun h2 => ?_, fun h2 => ?_⟩
  · rw [h1, if_neg (by omega)]; rfl
  · rw [h1, if_pos (by omega)]
theorem pow_int (k : Nat) : ((2 : Int) ^ k) = ((2 ^ k : Nat) : Int) := by push_cast; rfl
/-- Bits of a word. -/
theorem Bits_spec (w : BitVec 32) (at_ k : Nat) (ha : at_ ≤ 31) (hk : k ≤ 32) : Spec Tryd.prog G 73 [.int .u32 w.toNat, .int .i64 at_, .int .i64 k] h (Is (.int .u32 (BitVec.ofNat 32 (fld w at_ k)).toNat) h) := by
  refine Spec.is C73ok rfl ?_
  simp only [push_cast, simprocAttr]
  refine (Power_spec at_ (by omega)).to ?_
  simp only [push_cast, simprocAttr]
  refine (Power_spec k (by omega)).to ?_
  simp only [push_cast, simprocAttr]
  rw [pow_int, tmod_nat, BitVec.ofInt_natCast, BitVec.toNat_ushiftRight, sw64, Nat.shiftRight_eq_div_pow]
  rfl
/-- A number of k bits, as a signed word. -/
def extN (n k : Nat) : Nat := if 2 ^ (k - 1) ≤ n % 2 ^ k then n % 2 ^ k + 2 ^ 32 - 2 ^ k else n % 2 ^ k
theorem extN_lt (n k : Nat) (hk : k ≤ 32) : extN n k < 2 ^ 32 := by
  have h1 : n % 2 ^ k < 2 ^ k := Nat.mod_lt _ (Nat.two_pow_pos k)
  have h2 : 2 ^ k ≤ 2 ^ 32 := Nat.pow_le_pow_right (by omega) hk
  unfold extN; split <;> omega
theorem PowV {n P : Nat} (hn : n ≤ 63) (hP : 2 ^ n = P) : Spec Tryd.prog G 74 [.int .i64 n] h (Is (.int .u64 (P : Int)) h) := hP ▸ Power_spec n hn
theorem Pow32 : Spec Tryd.prog G 74 [.int .i64 32] h (Is (.int .u64 4294967296) h) := PowV (n := 32) (P := 4294967296) (by omega) (by decide)
theorem Extend_spec (w : BitVec 32) (k : Nat) (h1 : 1 ≤ k) (hk : k ≤ 32) : Spec Tryd.prog G 72 [.int .u32 w.toNat, .int .i64 k] h (Is (.int .u32 (BitVec.ofNat 32 (extN w.toNat k)).toNat) h) := by
  refine Spec.is C72ok rfl ?_
  have hw := w.isLt
  have hE : extN w.toNat k = if 2 ^ (k - 1) ≤ w.toNat % 2 ^ k then w.toNat % 2 ^ k + 2 ^ 32 - 2 ^ k else w.toNat % 2 ^ k := rfl
  generalize extN w.toNat k = E at hE ⊢
  have h2 : 2 ^ k ≤ 2 ^ 32 := Nat.pow_le_pow_right (by omega) hk
  have h3 := Nat.two_pow_pos k
  have h4 : 2 ^ (k - 1) ≤ 2 ^ 32 := Nat.pow_le_pow_right (by omega) (by omega)
  obtain ⟨j, hj⟩ : ∃ j, k - 1 = j := ⟨_, rfl⟩
  have ek : (k : Int) - 1 = (j : Int) := by omega
  rw [hj] at hE h4
  obtain ⟨P, hP⟩ : ∃ P, 2 ^ k = P := ⟨_, rfl⟩
  obtain ⟨H, hH⟩ : ∃ H, 2 ^ j = H := ⟨_, rfl⟩
  rw [hP] at hE h2 h3
  rw [hH] at hE h4
  have hm : w.toNat % P < P := Nat.mod_lt _ h3
  have h5 : ((P : Int) = 0) = False := by simp; omega
  simp only [push_cast, simprocAttr]
  refine (PowV (by omega) hP).to ?_
  simp (disch := omega) only [push_cast, simprocAttr, wrap_i64, toNat_ofInt64, Nat.min_eq_left, Int.toNat_of_nonneg, ek, sw64, h5]
  refine (PowV (by omega) hH).to ?_
  obtain ⟨M, hM⟩ : ∃ M, w.toNat % P = M := ⟨_, rfl⟩
  have e2 : ((w.toNat : Int) % (P : Int)) = (M : Int) := by rw [← hM]; push_cast; rfl
  rw [hM] at hE hm
  simp only [push_cast, simprocAttr, e2]
  refine ⟨fun hc => ?_, fun hc => ?_⟩
  · refine Pow32.to ?_
    simp only [push_cast, simprocAttr]
    refine (PowV (by omega) hP).to ?_
    simp (disch := omega) only [push_cast, simprocAttr, wrap_i64, toNat_ofInt64, Nat.min_eq_left, Int.toNat_of_nonneg]
    rw [if_pos (by omega)] at hE
    rw [show ((M : Int) + 4294967296 - P) = ((E : Nat) : Int) by omega, BitVec.ofInt_natCast]
  · rw [if_neg (by omega)] at hE
    subst hE
    rw [BitVec.ofInt_natCast]
end Go.Ab
