/- Each pattern of an instruction hits just where the word has its kind. Printed by h4.py. -/
import Derived.Test.YtglanajcilfpcaaDoorH3
set_option linter.unusedSimpArgs false
set_option linter.unusedVariables false
set_option maxRecDepth 10000
namespace Go.Ab
open Go.Proofs
def kN (o f3 f7 W : Nat) : Nat := if o = 0x37 then 1 else if o = 0x17 then 2 else if o = 0x6f then 3 else if o = 0x67 then (if f3 = 0 then 4 else 0) else if o = 0x63 then branchK f3 else if o = 0x03 then loadK f3
  else if o = 0x23 then (if f3 < 3 then 16 + f3 else 0) else if o = 0x13 then immK f3 f7 else if o = 0x33 then regK f3 f7 else if o = 0x0f then (if f3 < 2 then 38 + f3 else 0) else if o = 0x73 then sysK f3 W else 0
theorem kindK_eq (w : BitVec 32) : kindK w = kN (fld w 0 7) (fld w 12 3) (fld w 25 7) w.toNat := rfl
theorem regL (f3 : Nat) (h : f3 < 8) : ([28, 30, 31, 32, 33, 34, 36, 37].getD f3 0 = 28 ∧ f3 = 0) ∨ ([28, 30, 31, 32, 33, 34, 36, 37].getD f3 0 = 30 ∧ f3 = 1) ∨ ([28, 30, 31, 32, 33, 34, 36, 37].getD f3 0 = 31 ∧ f3 = 2) ∨ ([28, 30, 31, 32, 33, 34, 36, 37].getD f3 0 = 32 ∧ f3 = 3) ∨ ([28, 30, 31, 32, 33, 34, 36, 37].getD f3 0 = 33 ∧ f3 = 4) ∨ ([28, 30, 31, 32, 33, 34, 36, 37].getD f3 0 = 34 ∧ f3 = 5) ∨ ([28, 30, 31, 32, 33, 34, 36, 37].getD f3 0 = 36 ∧ f3 = 6) ∨ ([28, 30, 31, 32, 33, 34, 36, 37].getD f3 0 = 37 ∧ f3 = 7) := by
  revert h; revert f3; decide
theorem branchR (f3 : Nat) (h : f3 < 8) : (branchK f3 = 0 ∧ (f3 = 2 ∨ f3 = 3)) ∨ (branchK f3 = 5 ∧ f3 = 0) ∨ (branchK f3 = 6 ∧ f3 = 1) ∨ (branchK f3 = 7 ∧ f3 = 4) ∨ (branchK f3 = 8 ∧ f3 = 5) ∨ (branchK f3 = 9 ∧ f3 = 6) ∨ (branchK f3 = 10 ∧ f3 = 7) := by revert h; revert f3; decide
theorem loadR (f3 : Nat) (h : f3 < 8) : (loadK f3 = 0 ∧ (f3 = 3 ∨ f3 = 6 ∨ f3 = 7)) ∨ (loadK f3 = 11 ∧ f3 = 0) ∨ (loadK f3 = 12 ∧ f3 = 1) ∨ (loadK f3 = 13 ∧ f3 = 2) ∨ (loadK f3 = 14 ∧ f3 = 4) ∨ (loadK f3 = 15 ∧ f3 = 5) := by revert h; revert f3; decide
theorem immR (f3 f7 : Nat) (h : f3 < 8) : (immK f3 f7 = 0 ∨ 19 ≤ immK f3 f7) ∧ immK f3 f7 ≤ 27 ∧ (immK f3 f7 = 19 ↔ f3 = 0) ∧ (immK f3 f7 = 20 ↔ f3 = 2) ∧ (immK f3 f7 = 21 ↔ f3 = 3) ∧ (immK f3 f7 = 22 ↔ f3 = 4) ∧ (immK f3 f7 = 23 ↔ f3 = 6) ∧ (immK f3 f7 = 24 ↔ f3 = 7) ∧ (immK f3 f7 = 25 ↔ f3 = 1 ∧ f7 = 0) ∧ (immK f3 f7 = 26 ↔ f3 = 5 ∧ f7 = 0) ∧ (immK f3 f7 = 27 ↔ f3 = 5 ∧ f7 = 32) := by
  obtain ⟨K, hK⟩ : ∃ K, immK f3 f7 = K := ⟨_, rfl⟩; rw [hK]; unfold immK at hK
  (repeat' (split at hK)) <;> (subst hK; omega)
theorem regR (f3 f7 : Nat) (h : f3 < 8) : (regK f3 f7 = 0 ∨ 28 ≤ regK f3 f7) ∧ (regK f3 f7 < 38 ∨ 50 ≤ regK f3 f7) ∧ regK f3 f7 ≤ 57 ∧ (regK f3 f7 = 28 ↔ f7 = 0 ∧ f3 = 0) ∧ (regK f3 f7 = 30 ↔ f7 = 0 ∧ f3 = 1) ∧ (regK f3 f7 = 31 ↔ f7 = 0 ∧ f3 = 2) ∧ (regK f3 f7 = 32 ↔ f7 = 0 ∧ f3 = 3) ∧ (regK f3 f7 = 33 ↔ f7 = 0 ∧ f3 = 4) ∧ (regK f3 f7 = 34 ↔ f7 = 0 ∧ f3 = 5) ∧ (regK f3 f7 = 36 ↔ f7 = 0 ∧ f3 = 6) ∧ (regK f3 f7 = 37 ↔ f7 = 0 ∧ f3 = 7) ∧ (regK f3 f7 = 50 ↔ f7 = 1 ∧ f3 = 0) ∧ (regK f3 f7 = 51 ↔ f7 = 1 ∧ f3 = 1) ∧ (regK f3 f7 = 52 ↔ f7 = 1 ∧ f3 = 2) ∧ (regK f3 f7 = 53 ↔ f7 = 1 ∧ f3 = 3) ∧ (regK f3 f7 = 54 ↔ f7 = 1 ∧ f3 = 4) ∧ (regK f3 f7 = 55 ↔ f7 = 1 ∧ f3 = 5) ∧ (regK f3 f7 = 56 ↔ f7 = 1 ∧ f3 = 6) ∧ (regK f3 f7 = 57 ↔ f7 = 1 ∧ f3 = 7) ∧ (regK f3 f7 = 29 ↔ f7 = 32 ∧ f3 = 0) ∧ (regK f3 f7 = 35 ↔ f7 = 32 ∧ f3 = 5) := by
  obtain ⟨K, hK⟩ : ∃ K, regK f3 f7 = K := ⟨_, rfl⟩; rw [hK]; unfold regK at hK
  have hf : f3 = 0 ∨ f3 = 1 ∨ f3 = 2 ∨ f3 = 3 ∨ f3 = 4 ∨ f3 = 5 ∨ f3 = 6 ∨ f3 = 7 := by omega
  rcases hf with rfl | rfl | rfl | rfl | rfl | rfl | rfl | rfl <;> simp only [List.getD_cons_zero, List.getD_cons_succ, Nat.reduceEqDiff, if_true, if_false, Nat.reduceAdd, reduceIte] at hK <;> (repeat' (split at hK)) <;> (subst hK; omega)
theorem sysR (f3 W : Nat) (h : f3 < 8) : (sysK f3 W = 0 ∨ 40 ≤ sysK f3 W) ∧ sysK f3 W ≤ 49 ∧ (sysK f3 W = 42 ↔ f3 = 1) ∧ (sysK f3 W = 43 ↔ f3 = 2) ∧ (sysK f3 W = 44 ↔ f3 = 3) ∧ (sysK f3 W = 45 ↔ f3 = 5) ∧ (sysK f3 W = 46 ↔ f3 = 6) ∧ (sysK f3 W = 47 ↔ f3 = 7) ∧ (sysK f3 W = 40 ↔ (f3 = 0 ∨ f3 = 4) ∧ W = 0x73) ∧ (sysK f3 W = 41 ↔ (f3 = 0 ∨ f3 = 4) ∧ W = 0x100073) ∧ (sysK f3 W = 48 ↔ (f3 = 0 ∨ f3 = 4) ∧ W = 0x30200073) ∧ (sysK f3 W = 49 ↔ (f3 = 0 ∨ f3 = 4) ∧ W = 0x10500073) := by
  obtain ⟨K, hK⟩ : ∃ K, sysK f3 W = K := ⟨_, rfl⟩; rw [hK]; unfold sysK at hK
  (repeat' (split at hK)) <;> (subst hK; omega)
theorem kN_iff (o f3 f7 W : Nat) (h3 : f3 < 8) (hW : W = 0x73 ∨ W = 0x100073 ∨ W = 0x30200073 ∨ W = 0x10500073 → o = 0x73 ∧ f3 = 0) :
    ((o = 55) ↔ kN o f3 f7 W = 1) ∧ ((o = 23) ↔ kN o f3 f7 W = 2) ∧ ((o = 111) ↔ kN o f3 f7 W = 3) ∧ ((o = 103 ∧ f3 = 0) ↔ kN o f3 f7 W = 4) ∧ ((o = 99 ∧ f3 = 0) ↔ kN o f3 f7 W = 5) ∧ ((o = 99 ∧ f3 = 1) ↔ kN o f3 f7 W = 6) ∧ ((o = 99 ∧ f3 = 4) ↔ kN o f3 f7 W = 7) ∧ ((o = 99 ∧ f3 = 5) ↔ kN o f3 f7 W = 8) ∧ ((o = 99 ∧ f3 = 6) ↔ kN o f3 f7 W = 9) ∧ ((o = 99 ∧ f3 = 7) ↔ kN o f3 f7 W = 10) ∧ ((o = 3 ∧ f3 = 0) ↔ kN o f3 f7 W = 11) ∧ ((o = 3 ∧ f3 = 1) ↔ kN o f3 f7 W = 12) ∧ ((o = 3 ∧ f3 = 2) ↔ kN o f3 f7 W = 13) ∧ ((o = 3 ∧ f3 = 4) ↔ kN o f3 f7 W = 14) ∧ ((o = 3 ∧ f3 = 5) ↔ kN o f3 f7 W = 15) ∧ ((o = 35 ∧ f3 = 0) ↔ kN o f3 f7 W = 16) ∧ ((o = 35 ∧ f3 = 1) ↔ kN o f3 f7 W = 17) ∧ ((o = 35 ∧ f3 = 2) ↔ kN o f3 f7 W = 18) ∧ ((o = 19 ∧ f3 = 0) ↔ kN o f3 f7 W = 19) ∧ ((o = 19 ∧ f3 = 2) ↔ kN o f3 f7 W = 20) ∧ ((o = 19 ∧ f3 = 3) ↔ kN o f3 f7 W = 21) ∧ ((o = 19 ∧ f3 = 4) ↔ kN o f3 f7 W = 22) ∧ ((o = 19 ∧ f3 = 6) ↔ kN o f3 f7 W = 23) ∧ ((o = 19 ∧ f3 = 7) ↔ kN o f3 f7 W = 24) ∧ ((o = 19 ∧ f3 = 1 ∧ f7 = 0) ↔ kN o f3 f7 W = 25) ∧ ((o = 19 ∧ f3 = 5 ∧ f7 = 0) ↔ kN o f3 f7 W = 26) ∧ ((o = 19 ∧ f3 = 5 ∧ f7 = 32) ↔ kN o f3 f7 W = 27) ∧ ((o = 51 ∧ f3 = 0 ∧ f7 = 0) ↔ kN o f3 f7 W = 28) ∧ ((o = 51 ∧ f3 = 0 ∧ f7 = 32) ↔ kN o f3 f7 W = 29) ∧ ((o = 51 ∧ f3 = 1 ∧ f7 = 0) ↔ kN o f3 f7 W = 30) ∧ ((o = 51 ∧ f3 = 2 ∧ f7 = 0) ↔ kN o f3 f7 W = 31) ∧ ((o = 51 ∧ f3 = 3 ∧ f7 = 0) ↔ kN o f3 f7 W = 32) ∧ ((o = 51 ∧ f3 = 4 ∧ f7 = 0) ↔ kN o f3 f7 W = 33) ∧ ((o = 51 ∧ f3 = 5 ∧ f7 = 0) ↔ kN o f3 f7 W = 34) ∧ ((o = 51 ∧ f3 = 5 ∧ f7 = 32) ↔ kN o f3 f7 W = 35) ∧ ((o = 51 ∧ f3 = 6 ∧ f7 = 0) ↔ kN o f3 f7 W = 36) ∧ ((o = 51 ∧ f3 = 7 ∧ f7 = 0) ↔ kN o f3 f7 W = 37) ∧ ((o = 15 ∧ f3 = 0) ↔ kN o f3 f7 W = 38) ∧ ((o = 15 ∧ f3 = 1) ↔ kN o f3 f7 W = 39) ∧ ((W = 115) ↔ kN o f3 f7 W = 40) ∧ ((W = 1048691) ↔ kN o f3 f7 W = 41) ∧ ((o = 115 ∧ f3 = 1) ↔ kN o f3 f7 W = 42) ∧ ((o = 115 ∧ f3 = 2) ↔ kN o f3 f7 W = 43) ∧ ((o = 115 ∧ f3 = 3) ↔ kN o f3 f7 W = 44) ∧ ((o = 115 ∧ f3 = 5) ↔ kN o f3 f7 W = 45) ∧ ((o = 115 ∧ f3 = 6) ↔ kN o f3 f7 W = 46) ∧ ((o = 115 ∧ f3 = 7) ↔ kN o f3 f7 W = 47) ∧ ((W = 807403635) ↔ kN o f3 f7 W = 48) ∧ ((W = 273678451) ↔ kN o f3 f7 W = 49) ∧ ((o = 51 ∧ f3 = 0 ∧ f7 = 1) ↔ kN o f3 f7 W = 50) ∧ ((o = 51 ∧ f3 = 1 ∧ f7 = 1) ↔ kN o f3 f7 W = 51) ∧ ((o = 51 ∧ f3 = 2 ∧ f7 = 1) ↔ kN o f3 f7 W = 52) ∧ ((o = 51 ∧ f3 = 3 ∧ f7 = 1) ↔ kN o f3 f7 W = 53) ∧ ((o = 51 ∧ f3 = 4 ∧ f7 = 1) ↔ kN o f3 f7 W = 54) ∧ ((o = 51 ∧ f3 = 5 ∧ f7 = 1) ↔ kN o f3 f7 W = 55) ∧ ((o = 51 ∧ f3 = 6 ∧ f7 = 1) ↔ kN o f3 f7 W = 56) ∧ ((o = 51 ∧ f3 = 7 ∧ f7 = 1) ↔ kN o f3 f7 W = 57) := by
  have r1 := branchR f3 h3
  have r2 := loadR f3 h3
  have r3 := immR f3 f7 h3
  have r4 := regR f3 f7 h3
  have r5 := sysR f3 W h3
  have r6 := regL f3 h3
  unfold kN
  generalize branchK f3 = K1 at *
  generalize loadK f3 = K2 at *
  generalize immK f3 f7 = K3 at *
  generalize regK f3 f7 = K4 at *
  generalize sysK f3 W = K5 at *
  generalize [28, 30, 31, 32, 33, 34, 36, 37].getD f3 0 = r at *
  by_cases c55 : o = 55
  · simp only [c55, if_true, if_false, Nat.reduceEqDiff, true_and, false_and, reduceIte] at hW ⊢
    clear r1 r2 r3 r4 r5 r6
    (repeat' (apply And.intro)) <;> first | omega | (constructor <;> intro q <;> first | omega | exact (hW (by omega)).elim | exact q.elim | (split at q <;> omega) | (split <;> omega))
  by_cases c23 : o = 23
  · simp only [c23, if_true, if_false, Nat.reduceEqDiff, true_and, false_and, reduceIte] at hW ⊢
    clear r1 r2 r3 r4 r5 r6
    (repeat' (apply And.intro)) <;> first | omega | (constructor <;> intro q <;> first | omega | exact (hW (by omega)).elim | exact q.elim | (split at q <;> omega) | (split <;> omega))
  by_cases c111 : o = 111
  · simp only [c111, if_true, if_false, Nat.reduceEqDiff, true_and, false_and, reduceIte] at hW ⊢
    clear r1 r2 r3 r4 r5 r6
    (repeat' (apply And.intro)) <;> first | omega | (constructor <;> intro q <;> first | omega | exact (hW (by omega)).elim | exact q.elim | (split at q <;> omega) | (split <;> omega))
  by_cases c103 : o = 103
  · simp only [c103, if_true, if_false, Nat.reduceEqDiff, true_and, false_and, reduceIte] at hW ⊢
    clear r1 r2 r3 r4 r5 r6
    (repeat' (apply And.intro)) <;> first | omega | (constructor <;> intro q <;> first | omega | exact (hW (by omega)).elim | exact q.elim | (split at q <;> omega) | (split <;> omega))
  by_cases c99 : o = 99
  · simp only [c99, if_true, if_false, Nat.reduceEqDiff, true_and, false_and, reduceIte] at hW ⊢
    clear r2 r3 r4 r5 r6
    (repeat' (apply And.intro)) <;> first | omega | (constructor <;> intro q <;> first | omega | exact (hW (by omega)).elim | exact q.elim | (split at q <;> omega) | (split <;> omega))
  by_cases c3 : o = 3
  · simp only [c3, if_true, if_false, Nat.reduceEqDiff, true_and, false_and, reduceIte] at hW ⊢
    clear r1 r3 r4 r5 r6
    (repeat' (apply And.intro)) <;> first | omega | (constructor <;> intro q <;> first | omega | exact (hW (by omega)).elim | exact q.elim | (split at q <;> omega) | (split <;> omega))
  by_cases c35 : o = 35
  · simp only [c35, if_true, if_false, Nat.reduceEqDiff, true_and, false_and, reduceIte] at hW ⊢
    clear r1 r2 r3 r4 r5 r6
    (repeat' (apply And.intro)) <;> first | omega | (constructor <;> intro q <;> first | omega | exact (hW (by omega)).elim | exact q.elim | (split at q <;> omega) | (split <;> omega))
  by_cases c19 : o = 19
  · simp only [c19, if_true, if_false, Nat.reduceEqDiff, true_and, false_and, reduceIte] at hW ⊢
    clear r1 r2 r4 r5 r6
    obtain ⟨q0, q1, i0, i1, i2, i3, i4, i5, i6, i7, i8⟩ := r3
    (repeat' (apply And.intro)) <;> first | (clear i0 i1 i2 i3 i4 i5 i6 i7 i8; constructor <;> intro q <;> first | exact q.elim | omega | exact (hW (by omega)).elim) | (simp only [i0, i1, i2, i3, i4, i5, i6, i7, i8]; done) | (simp only [i0, i1, i2, i3, i4, i5, i6, i7, i8]; clear i0 i1 i2 i3 i4 i5 i6 i7 i8; first | omega | (constructor <;> intro q <;> first | omega | exact ⟨q.2, q.1⟩ | exact q | exact ⟨q.1, q.2⟩ | exact ⟨.inl (hW (by omega)), q⟩ | exact ⟨.inl (hW (by omega)).2, q⟩ | exact q.2))
  by_cases c51 : o = 51
  · simp only [c51, if_true, if_false, Nat.reduceEqDiff, true_and, false_and, reduceIte] at hW ⊢
    clear r1 r2 r3 r5 r6
    obtain ⟨q0, q1, q2, i0, i1, i2, i3, i4, i5, i6, i7, i8, i9, i10, i11, i12, i13, i14, i15, i16, i17⟩ := r4
    (repeat' (apply And.intro)) <;> first | (clear i0 i1 i2 i3 i4 i5 i6 i7 i8 i9 i10 i11 i12 i13 i14 i15 i16 i17; constructor <;> intro q <;> first | exact q.elim | omega | exact (hW (by omega)).elim) | (simp only [i0, i1, i2, i3, i4, i5, i6, i7, i8, i9, i10, i11, i12, i13, i14, i15, i16, i17]; done) | (simp only [i0, i1, i2, i3, i4, i5, i6, i7, i8, i9, i10, i11, i12, i13, i14, i15, i16, i17]; clear i0 i1 i2 i3 i4 i5 i6 i7 i8 i9 i10 i11 i12 i13 i14 i15 i16 i17; first | omega | (constructor <;> intro q <;> first | omega | exact ⟨q.2, q.1⟩ | exact q | exact ⟨q.1, q.2⟩ | exact ⟨.inl (hW (by omega)), q⟩ | exact ⟨.inl (hW (by omega)).2, q⟩ | exact q.2))
  by_cases c15 : o = 15
  · simp only [c15, if_true, if_false, Nat.reduceEqDiff, true_and, false_and, reduceIte] at hW ⊢
    clear r1 r2 r3 r4 r5 r6
    (repeat' (apply And.intro)) <;> first | omega | (constructor <;> intro q <;> first | omega | exact (hW (by omega)).elim | exact q.elim | (split at q <;> omega) | (split <;> omega))
  by_cases c115 : o = 115
  · simp only [c115, if_true, if_false, Nat.reduceEqDiff, true_and, false_and, reduceIte] at hW ⊢
    clear r1 r2 r3 r4 r6
    obtain ⟨q0, q1, i0, i1, i2, i3, i4, i5, i6, i7, i8, i9⟩ := r5
    (repeat' (apply And.intro)) <;> first | (clear i0 i1 i2 i3 i4 i5 i6 i7 i8 i9; constructor <;> intro q <;> first | exact q.elim | omega | exact (hW (by omega)).elim) | (simp only [i0, i1, i2, i3, i4, i5, i6, i7, i8, i9]; done) | (simp only [i0, i1, i2, i3, i4, i5, i6, i7, i8, i9]; clear i0 i1 i2 i3 i4 i5 i6 i7 i8 i9; first | omega | (constructor <;> intro q <;> first | omega | exact ⟨q.2, q.1⟩ | exact q | exact ⟨q.1, q.2⟩ | exact ⟨.inl (hW (by omega)), q⟩ | exact ⟨.inl (hW (by omega)).2, q⟩ | exact q.2))
  simp only [c55, c23, c111, c103, c99, c3, c35, c19, c51, c15, c115, if_false, false_and, reduceIte] at hW ⊢
  clear r1 r2 r3 r4 r5 r6
  (repeat' (apply And.intro)) <;> first | omega | (constructor <;> intro q <;> first | omega | exact (hW (by omega)).elim | exact q.elim)
end Go.Ab
