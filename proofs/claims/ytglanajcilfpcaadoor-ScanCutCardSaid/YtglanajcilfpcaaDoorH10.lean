/- A word's instruction is right: the document's judgement. -/
import Derived.Test.YtglanajcilfpcaaDoorH9
import Derived.Test.YtglanajcilfpcaaDoorH7
set_option linter.unusedSimpArgs false
set_option linter.unusedVariables false
set_option maxRecDepth 10000
namespace Go.Ab
open Go.Proofs
variable {G : Glo} {h : Heap}
theorem rreg_spec (n : Int) (b : Bool) (h0 : 0 ≤ n) (h1 : n ≤ 31) (hb : b = true ∨ n = 0) : Spec Tryd.prog G 75 [.int .i64 n, .bool b] h (Is (.bool true) h) := by
  have e : decide (n ≥ 0) = true := decide_eq_true h0
  have e2 : decide (n ≤ 31) = true := decide_eq_true h1
  cases b with
  | true =>
    refine Spec.is C75ok rfl ?_
    simp only [push_cast, simprocAttr, e, e2]
  | false =>
    have hz : n = 0 := by rcases hb with hb | hb; cases hb; exact hb
    subst hz
    refine Spec.is C75ok rfl ?_
    simp only [push_cast, simprocAttr]
theorem rsigned_spec (x : BitVec 32) (k u : Nat) (hk : 1 ≤ k ∧ k ≤ 32) (hu : u = 1 ∨ u = 2) (h1 : -(2 ^ (k - 1) : Nat) ≤ x.toInt) (h2 : x.toInt < (2 ^ (k - 1) : Nat)) (h3 : u = 2 → x.toNat % 2 = 0) : Spec Tryd.prog G 76 [.int .u32 x.toNat, .int .i64 k, .int .i64 u] h (Is (.bool true) h) := by
  obtain ⟨j, hj⟩ : ∃ j, k - 1 = j := ⟨_, rfl⟩
  have ek : (k : Int) - 1 = (j : Int) := by omega
  rw [hj] at h1 h2
  obtain ⟨P, hP⟩ : ∃ P, 2 ^ j = P := ⟨_, rfl⟩
  rw [hP] at h1 h2
  have hle : P ≤ 2 ^ 31 := hP ▸ Nat.pow_le_pow_right (by omega) (by omega)
  have ht := BitVec.toInt_eq_toNat_cond x
  have hm : x.toInt.tmod (u : Int) = 0 := by
    rcases hu with rfl | rfl
    · simp
    · have := h3 rfl
      apply Int.tmod_eq_zero_of_dvd
      rw [ht]; split <;> omega
  have c1 : decide (x.toInt ≥ 0 - (P : Int)) = true := decide_eq_true (by omega)
  have c2 : decide (x.toInt < (P : Int)) = true := decide_eq_true (by omega)
  have hu0 : ((u : Int) = 0) = False := by simp only [eq_iff_iff, iff_false]; omega
  have hS := fun H : Heap => Signed_spec (G := G) (h := H) x
  generalize x.toInt = X at *
  have c3 : decide (X ≥ -(P : Int)) = true := decide_eq_true (by omega)
  have wP : IntKind.i64.wrap (P : Int) = P := wrap_i64 (by omega) (by omega)
  have wN : IntKind.i64.wrap (-(P : Int)) = -(P : Int) := wrap_i64 (by omega) (by omega)
  refine Spec.is C76ok rfl ?_
  simp only [push_cast, simprocAttr]
  refine (hS _).to ?_
  simp (disch := omega) only [push_cast, simprocAttr, wrap_i64, toNat_ofInt64, Nat.min_eq_left, Int.toNat_of_nonneg, ek]
  refine (PowV (by omega) hP).to ?_
  simp (disch := omega) only [push_cast, simprocAttr, wrap_i64, toNat_ofInt64, Nat.min_eq_left, Int.toNat_of_nonneg, c1, c2, c3, hm, hu0, wP, wN]
theorem ext_bd (x : BitVec 32) (k : Nat) (hk : k = 12 ∨ k = 13 ∨ k = 21) (hx : BitVec.ofNat 32 (extN x.toNat k) = x) : -((2 ^ (k - 1) : Nat) : Int) ≤ x.toInt ∧ x.toInt < ((2 ^ (k - 1) : Nat) : Int) := by
  have h1 : extN x.toNat k < 4294967296 := by have := extN_lt x.toNat k (by omega); omega
  have h2 : x.toNat = extN x.toNat k := by
    have := congrArg BitVec.toNat hx
    rw [ofNat_toNat32 h1] at this
    exact this.symm
  have ht := BitVec.toInt_eq_toNat_cond x
  rcases hk with rfl | rfl | rfl <;>
  · unfold extN at h2
    simp only [Nat.reduceSub, Nat.reducePow] at h2 ⊢
    rw [ht]
    split at h2 <;> split <;> omega
set_option maxHeartbeats 4000000 in
theorem rRight_spec (w : BitVec 32) (n : Nat) (hn : n < 58) : Spec Tryd.prog G 52 [.agg (laidN w n).cells] h (Is (.bool true) h) := by
  have hf := fun H : Heap => rForm_spec (G := G) (h := H) n hn
  obtain ⟨⟨a1, a2⟩, ⟨b1, b2⟩, ⟨c1, c2⟩, d1, d2⟩ := laid_ok w n
  have hle := formN_le n
  have e1 : (laidN w n).op = n := rfl
  have e2 : (laidN w n).imm = immN w (formN n) := rfl
  have k1 : formN n = 0 ∨ formN n = 4 ∨ formN n = 5 → (laidN w n).rd = 0 := fun q => by simp [laidN, q]
  have k2 : formN n = 0 ∨ formN n = 1 ∨ formN n = 2 ∨ formN n = 9 → (laidN w n).rs1 = 0 := fun q => by
    simp only [laidN]; rw [if_neg (by omega)]
  have k3 : ¬ (formN n = 4 ∨ formN n = 5 ∨ formN n = 6) → (laidN w n).rs2 = 0 := fun q => by simp only [laidN]; rw [if_neg q]
  have k4 : ¬ (formN n = 8 ∨ formN n = 9) → (laidN w n).csr = 0 := fun q => by simp only [laidN]; rw [if_neg q]
  generalize laidN w n = I at *
  generalize formN n = f at *
  have r1 := fun (H : Heap) (b : Bool) (hb : b = true ∨ I.rd = 0) => rreg_spec (G := G) (h := H) I.rd b a1 a2 hb
  have r2 := fun (H : Heap) (b : Bool) (hb : b = true ∨ I.rs1 = 0) => rreg_spec (G := G) (h := H) I.rs1 b b1 b2 hb
  have r3 := fun (H : Heap) (b : Bool) (hb : b = true ∨ I.rs2 = 0) => rreg_spec (G := G) (h := H) I.rs2 b c1 c2 hb
  have o1 : decide ((n : Int) < 0) = false := decide_eq_false (by omega)
  have o2 : decide ((n : Int) ≥ 58) = false := decide_eq_false (by omega)
  have s1 : decide (I.csr < 0) = false := decide_eq_false (by omega)
  have s2 : decide (I.csr > 4095) = false := decide_eq_false (by omega)
  have hf' : f = 0 ∨ f = 1 ∨ f = 2 ∨ f = 3 ∨ f = 4 ∨ f = 5 ∨ f = 6 ∨ f = 7 ∨ f = 8 ∨ f = 9 := by omega
  rcases hf' with rfl | rfl | rfl | rfl | rfl | rfl | rfl | rfl | rfl | rfl
  · have z4 := k4 (by omega)
    have z5 : I.imm = 0#32 := by rw [e2]; rfl
    refine Spec.is C52ok rfl ?_
    simp only [push_cast, simprocAttr, e1, o1, o2]
    refine (hf _).to ?_
    simp only [push_cast, simprocAttr, e1]
    refine (r1 _ _ (by first | (left; rfl) | (right; exact k1 (by omega)))).to ?_
    simp only [push_cast, simprocAttr, e1]
    refine (r2 _ _ (by first | (left; rfl) | (right; exact k2 (by omega)))).to ?_
    simp only [push_cast, simprocAttr, e1]
    refine (r3 _ _ (by first | (left; rfl) | (right; exact k3 (by omega)))).to ?_
    simp only [push_cast, simprocAttr, e1, s1, s2, z4, z5]
    try (simp; done)
  · have z4 := k4 (by omega)
    have z5 : (I.imm.toNat : Int).tmod 4096 = 0 := by
      have := fld_lt w 12 20
      rw [e2, show immN w 1 = BitVec.ofNat 32 (fld w 12 20 * 4096) from rfl, ofNat_toNat32 (by omega), Int.tmod_eq_emod_of_nonneg (by omega)]
      omega
    refine Spec.is C52ok rfl ?_
    simp only [push_cast, simprocAttr, e1, o1, o2]
    refine (hf _).to ?_
    simp only [push_cast, simprocAttr, e1]
    refine (r1 _ _ (by first | (left; rfl) | (right; exact k1 (by omega)))).to ?_
    simp only [push_cast, simprocAttr, e1]
    refine (r2 _ _ (by first | (left; rfl) | (right; exact k2 (by omega)))).to ?_
    simp only [push_cast, simprocAttr, e1]
    refine (r3 _ _ (by first | (left; rfl) | (right; exact k3 (by omega)))).to ?_
    simp only [push_cast, simprocAttr, e1, s1, s2, z4, z5]
    try (simp; done)
  · have z4 := k4 (by omega)
    obtain ⟨q1, q2⟩ := immN_21 w
    rw [← e2] at q1 q2
    obtain ⟨q3, q4⟩ := ext_bd _ 21 (by omega) q1
    have hs := fun H : Heap => rsigned_spec (G := G) (h := H) I.imm 21 2 (by omega) (by omega) q3 q4 (fun _ => q2)
    refine Spec.is C52ok rfl ?_
    simp only [push_cast, simprocAttr, e1, o1, o2]
    refine (hf _).to ?_
    simp only [push_cast, simprocAttr, e1]
    refine (r1 _ _ (by first | (left; rfl) | (right; exact k1 (by omega)))).to ?_
    simp only [push_cast, simprocAttr, e1]
    refine (r2 _ _ (by first | (left; rfl) | (right; exact k2 (by omega)))).to ?_
    simp only [push_cast, simprocAttr, e1]
    refine (r3 _ _ (by first | (left; rfl) | (right; exact k3 (by omega)))).to ?_
    simp only [push_cast, simprocAttr, e1, s1, s2, z4]
    refine (hs _).to ?_
    simp only [push_cast, simprocAttr]
  · have z4 := k4 (by omega)
    have q1 := immN_12 w 3 (by omega)
    rw [← e2] at q1
    obtain ⟨q3, q4⟩ := ext_bd _ 12 (by omega) q1
    have hs := fun H : Heap => rsigned_spec (G := G) (h := H) I.imm 12 1 (by omega) (by omega) q3 q4 (fun q => by omega)
    refine Spec.is C52ok rfl ?_
    simp only [push_cast, simprocAttr, e1, o1, o2]
    refine (hf _).to ?_
    simp only [push_cast, simprocAttr, e1]
    refine (r1 _ _ (by first | (left; rfl) | (right; exact k1 (by omega)))).to ?_
    simp only [push_cast, simprocAttr, e1]
    refine (r2 _ _ (by first | (left; rfl) | (right; exact k2 (by omega)))).to ?_
    simp only [push_cast, simprocAttr, e1]
    refine (r3 _ _ (by first | (left; rfl) | (right; exact k3 (by omega)))).to ?_
    simp only [push_cast, simprocAttr, e1, s1, s2, z4]
    refine (hs _).to ?_
    simp only [push_cast, simprocAttr]
  · have z4 := k4 (by omega)
    obtain ⟨q1, q2⟩ := immN_13 w
    rw [← e2] at q1 q2
    obtain ⟨q3, q4⟩ := ext_bd _ 13 (by omega) q1
    have hs := fun H : Heap => rsigned_spec (G := G) (h := H) I.imm 13 2 (by omega) (by omega) q3 q4 (fun _ => q2)
    refine Spec.is C52ok rfl ?_
    simp only [push_cast, simprocAttr, e1, o1, o2]
    refine (hf _).to ?_
    simp only [push_cast, simprocAttr, e1]
    refine (r1 _ _ (by first | (left; rfl) | (right; exact k1 (by omega)))).to ?_
    simp only [push_cast, simprocAttr, e1]
    refine (r2 _ _ (by first | (left; rfl) | (right; exact k2 (by omega)))).to ?_
    simp only [push_cast, simprocAttr, e1]
    refine (r3 _ _ (by first | (left; rfl) | (right; exact k3 (by omega)))).to ?_
    simp only [push_cast, simprocAttr, e1, s1, s2, z4]
    refine (hs _).to ?_
    simp only [push_cast, simprocAttr]
  · have z4 := k4 (by omega)
    have q1 := immN_12 w 5 (by omega)
    rw [← e2] at q1
    obtain ⟨q3, q4⟩ := ext_bd _ 12 (by omega) q1
    have hs := fun H : Heap => rsigned_spec (G := G) (h := H) I.imm 12 1 (by omega) (by omega) q3 q4 (fun q => by omega)
    refine Spec.is C52ok rfl ?_
    simp only [push_cast, simprocAttr, e1, o1, o2]
    refine (hf _).to ?_
    simp only [push_cast, simprocAttr, e1]
    refine (r1 _ _ (by first | (left; rfl) | (right; exact k1 (by omega)))).to ?_
    simp only [push_cast, simprocAttr, e1]
    refine (r2 _ _ (by first | (left; rfl) | (right; exact k2 (by omega)))).to ?_
    simp only [push_cast, simprocAttr, e1]
    refine (r3 _ _ (by first | (left; rfl) | (right; exact k3 (by omega)))).to ?_
    simp only [push_cast, simprocAttr, e1, s1, s2, z4]
    refine (hs _).to ?_
    simp only [push_cast, simprocAttr]
  · have z4 := k4 (by omega)
    have z5 : I.imm = 0#32 := by rw [e2]; rfl
    refine Spec.is C52ok rfl ?_
    simp only [push_cast, simprocAttr, e1, o1, o2]
    refine (hf _).to ?_
    simp only [push_cast, simprocAttr, e1]
    refine (r1 _ _ (by first | (left; rfl) | (right; exact k1 (by omega)))).to ?_
    simp only [push_cast, simprocAttr, e1]
    refine (r2 _ _ (by first | (left; rfl) | (right; exact k2 (by omega)))).to ?_
    simp only [push_cast, simprocAttr, e1]
    refine (r3 _ _ (by first | (left; rfl) | (right; exact k3 (by omega)))).to ?_
    simp only [push_cast, simprocAttr, e1, s1, s2, z4, z5]
    try (simp; done)
  · have z4 := k4 (by omega)
    have z5 : decide ((I.imm.toNat : Int) < 32) = true := by
      have := fld_lt w 20 5
      rw [e2, show immN w 7 = BitVec.ofNat 32 (fld w 20 5) from rfl, ofNat_toNat32 (by omega)]
      exact decide_eq_true (by omega)
    refine Spec.is C52ok rfl ?_
    simp only [push_cast, simprocAttr, e1, o1, o2]
    refine (hf _).to ?_
    simp only [push_cast, simprocAttr, e1]
    refine (r1 _ _ (by first | (left; rfl) | (right; exact k1 (by omega)))).to ?_
    simp only [push_cast, simprocAttr, e1]
    refine (r2 _ _ (by first | (left; rfl) | (right; exact k2 (by omega)))).to ?_
    simp only [push_cast, simprocAttr, e1]
    refine (r3 _ _ (by first | (left; rfl) | (right; exact k3 (by omega)))).to ?_
    simp only [push_cast, simprocAttr, e1, s1, s2, z4, z5]
    try (simp; done)
  · have z5 : I.imm = 0#32 := by rw [e2]; rfl
    refine Spec.is C52ok rfl ?_
    simp only [push_cast, simprocAttr, e1, o1, o2]
    refine (hf _).to ?_
    simp only [push_cast, simprocAttr, e1]
    refine (r1 _ _ (by first | (left; rfl) | (right; exact k1 (by omega)))).to ?_
    simp only [push_cast, simprocAttr, e1]
    refine (r2 _ _ (by first | (left; rfl) | (right; exact k2 (by omega)))).to ?_
    simp only [push_cast, simprocAttr, e1]
    refine (r3 _ _ (by first | (left; rfl) | (right; exact k3 (by omega)))).to ?_
    simp only [push_cast, simprocAttr, e1, s1, s2, z5]
    try (simp; done)
  · have z5 : decide ((I.imm.toNat : Int) < 32) = true := by
      have := fld_lt w 15 5
      rw [e2, show immN w 9 = BitVec.ofNat 32 (fld w 15 5) from rfl, ofNat_toNat32 (by omega)]
      exact decide_eq_true (by omega)
    refine Spec.is C52ok rfl ?_
    simp only [push_cast, simprocAttr, e1, o1, o2]
    refine (hf _).to ?_
    simp only [push_cast, simprocAttr, e1]
    refine (r1 _ _ (by first | (left; rfl) | (right; exact k1 (by omega)))).to ?_
    simp only [push_cast, simprocAttr, e1]
    refine (r2 _ _ (by first | (left; rfl) | (right; exact k2 (by omega)))).to ?_
    simp only [push_cast, simprocAttr, e1]
    refine (r3 _ _ (by first | (left; rfl) | (right; exact k3 (by omega)))).to ?_
    simp only [push_cast, simprocAttr, e1, s1, s2, z5]
    try (simp; done)
end Go.Ab
