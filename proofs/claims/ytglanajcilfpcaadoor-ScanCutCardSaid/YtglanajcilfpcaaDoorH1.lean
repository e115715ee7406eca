/- Words read as instructions: the program's fields and kinds. -/
import Derived.Test.YtglanajcilfpcaaDoorE1
set_option linter.unusedSimpArgs false
set_option linter.unusedVariables false
set_option maxRecDepth 10000
namespace Go.Ab
open Go.Proofs
variable {G : Glo} {h : Heap}
theorem field_spec (w : BitVec 32) (hi lo : Nat) (h1 : lo ≤ hi) (h2 : hi ≤ 31) : Spec Tryd.prog G 116 [.int .u32 w.toNat, .int .u64 hi, .int .u64 lo] h (Is (.int .u32 (BitVec.ofNat 32 (fld w lo (hi - lo + 1))).toNat) h) := by
  have e := shl_shr_fld w hi lo h1 h2
  have hl := fld_lt w lo (hi - lo + 1)
  have hp : 2 ^ (hi - lo + 1) ≤ 2 ^ 32 := Nat.pow_le_pow_right (by omega) (by omega)
  have e2 : BitVec.ofNat 32 (fld w lo (hi - lo + 1)) = (w <<< (31 - hi)) >>> (31 - hi + lo) := by
    apply BitVec.eq_of_toNat_eq
    rw [e, BitVec.toNat_ofNat, Nat.mod_eq_of_lt (by omega)]
  rw [e2]
  obtain ⟨a, ha⟩ : ∃ a, 31 - hi = a := ⟨_, rfl⟩
  have c1 : (31 : Int) - hi = (a : Int) := by omega
  have c2 : min a 32 = a := by omega
  have c3 : min (a + lo) 32 = a + lo := by omega
  rw [ha]
  refine Spec.is C116ok rfl ?_
  have c4 : ((a : Int) + lo).toNat = a + lo := by omega
  simp (disch := omega) only [push_cast, simprocAttr, wrap_i64, toNat_ofInt64, Nat.min_eq_left, Int.toNat_of_nonneg, c1, c2, c3, c4]
  omega
theorem rbits_spec (w : BitVec 32) (hi lo : Nat) (h1 : lo ≤ hi) (h2 : hi ≤ 31) : Spec Tryd.prog G 50 [.int .u32 w.toNat, .int .i64 hi, .int .i64 lo] h (Is (.int .u32 (BitVec.ofNat 32 (fld w lo (hi - lo + 1))).toNat) h) := by
  obtain ⟨k, hk⟩ : ∃ k, hi - lo + 1 = k := ⟨_, rfl⟩
  have c1 : (hi : Int) - lo + 1 = (k : Int) := by omega
  rw [hk]
  refine Spec.is C50ok rfl ?_
  simp (disch := omega) only [push_cast, simprocAttr, wrap_i64, toNat_ofInt64, Nat.min_eq_left, Int.toNat_of_nonneg, c1]
  refine (Bits_spec w lo k (by omega) (by omega)).to ?_
  simp only [push_cast, simprocAttr]
theorem lt8 (x : BitVec 32) (hx : x.toNat < 8) : x = 0#32 ∨ x = 1#32 ∨ x = 2#32 ∨ x = 3#32 ∨ x = 4#32 ∨ x = 5#32 ∨ x = 6#32 ∨ x = 7#32 := by
  have h : x.toNat = 0 ∨ x.toNat = 1 ∨ x.toNat = 2 ∨ x.toNat = 3 ∨ x.toNat = 4 ∨ x.toNat = 5 ∨ x.toNat = 6 ∨ x.toNat = 7 := by omega
  have e : ∀ n : Nat, n < 8 → x.toNat = n → x = BitVec.ofNat 32 n := fun n hn q => BitVec.eq_of_toNat_eq (by rw [q, BitVec.toNat_ofNat, Nat.mod_eq_of_lt (by omega)])
  rcases h with h | h | h | h | h | h | h | h
  · exact .inl (e 0 (by omega) h)
  · exact .inr (.inl (e 1 (by omega) h))
  · exact .inr (.inr (.inl (e 2 (by omega) h)))
  · exact .inr (.inr (.inr (.inl (e 3 (by omega) h))))
  · exact .inr (.inr (.inr (.inr (.inl (e 4 (by omega) h)))))
  · exact .inr (.inr (.inr (.inr (.inr (.inl (e 5 (by omega) h))))))
  · exact .inr (.inr (.inr (.inr (.inr (.inr (.inl (e 6 (by omega) h)))))))
  · exact .inr (.inr (.inr (.inr (.inr (.inr (.inr (e 7 (by omega) h)))))))
theorem kbranch_spec (x : BitVec 32) (hx : x.toNat < 8) : Spec Tryd.prog G 117 [.int .u32 x.toNat] h (Is (.int .i64 (branchK x.toNat : Nat)) h) := by
  rcases lt8 x hx with rfl | rfl | rfl | rfl | rfl | rfl | rfl | rfl <;>
  · refine Spec.is C117ok rfl ?_
    simp (disch := omega) only [push_cast, simprocAttr, wrap_i64, toNat_ofInt64, Nat.min_eq_left, Int.toNat_of_nonneg]
    simp [branchK]
theorem kload_spec (x : BitVec 32) (hx : x.toNat < 8) : Spec Tryd.prog G 118 [.int .u32 x.toNat] h (Is (.int .i64 (loadK x.toNat : Nat)) h) := by
  rcases lt8 x hx with rfl | rfl | rfl | rfl | rfl | rfl | rfl | rfl <;>
  · refine Spec.is C118ok rfl ?_
    simp (disch := omega) only [push_cast, simprocAttr, wrap_i64, toNat_ofInt64, Nat.min_eq_left, Int.toNat_of_nonneg]
    simp [loadK]
theorem f3_eq (w : BitVec 32) : ∃ x : BitVec 32, BitVec.ofNat 32 (fld w 12 3) = x ∧ x.toNat = fld w 12 3 ∧ x.toNat < 8 := by
  have := fld_lt w 12 3
  refine ⟨_, rfl, ?_, ?_⟩ <;> rw [BitVec.toNat_ofNat, Nat.mod_eq_of_lt (by omega)]
  omega
theorem f7_eq (w : BitVec 32) : (w >>> 25).toNat = fld w 25 7 := by
  have := w.isLt
  rw [BitVec.toNat_ushiftRight, Nat.shiftRight_eq_div_pow]
  unfold fld
  omega
theorem f7_fdiv (w : BitVec 32) : (w.toNat : Int).fdiv 33554432 = (fld w 25 7 : Nat) := by
  have := w.isLt
  rw [Int.fdiv_eq_ediv_of_nonneg _ (by omega)]
  unfold fld
  omega
theorem kimm_spec (w : BitVec 32) : Spec Tryd.prog G 119 [.int .u32 w.toNat] h (Is (.int .i64 (immK (fld w 12 3) (fld w 25 7) : Nat)) h) := by
  obtain ⟨x, e1, e2, hx⟩ := f3_eq w
  have hf := field_spec (G := G) (h := h) w 14 12 (by omega) (by omega)
  rw [show 14 - 12 + 1 = 3 from rfl, e1] at hf
  have h7 := f7_fdiv w
  rw [← e2]
  generalize fld w 25 7 = y at h7 ⊢
  refine Spec.is C119ok rfl ?_
  simp only [push_cast, simprocAttr]
  refine hf.to ?_
  rcases lt8 x hx with rfl | rfl | rfl | rfl | rfl | rfl | rfl | rfl <;>
  · simp (disch := omega) only [push_cast, simprocAttr, wrap_i64, toNat_ofInt64, Nat.min_eq_left, Int.toNat_of_nonneg, h7]
    simp [immK]
    try grind
theorem kreg_spec (w : BitVec 32) : Spec Tryd.prog G 120 [.int .u32 w.toNat] h (Is (.int .i64 (regK (fld w 12 3) (fld w 25 7) : Nat)) h) := by
  obtain ⟨x, e1, e2, hx⟩ := f3_eq w
  have hf := field_spec (G := G) (h := h) w 14 12 (by omega) (by omega)
  rw [show 14 - 12 + 1 = 3 from rfl, e1] at hf
  have h7 := f7_fdiv w
  rw [← e2]
  generalize fld w 25 7 = y at h7 ⊢
  refine Spec.is C120ok rfl ?_
  simp only [push_cast, simprocAttr]
  refine hf.to ?_
  rcases lt8 x hx with rfl | rfl | rfl | rfl | rfl | rfl | rfl | rfl <;>
  · simp (disch := omega) only [push_cast, simprocAttr, wrap_i64, toNat_ofInt64, Nat.min_eq_left, Int.toNat_of_nonneg, h7]
    simp [regK]
    try grind
theorem ksys_spec (w : BitVec 32) : Spec Tryd.prog G 121 [.int .u32 w.toNat] h (Is (.int .i64 (sysK (fld w 12 3) w.toNat : Nat)) h) := by
  obtain ⟨x, e1, e2, hx⟩ := f3_eq w
  have hf := field_spec (G := G) (h := h) w 14 12 (by omega) (by omega)
  rw [show 14 - 12 + 1 = 3 from rfl, e1] at hf
  rw [← e2]
  refine Spec.is C121ok rfl ?_
  simp only [push_cast, simprocAttr]
  refine hf.to ?_
  rcases lt8 x hx with rfl | rfl | rfl | rfl | rfl | rfl | rfl | rfl <;>
  · simp (disch := omega) only [push_cast, simprocAttr, wrap_i64, toNat_ofInt64, Nat.min_eq_left, Int.toNat_of_nonneg]
    simp [sysK]
    try grind
end Go.Ab
