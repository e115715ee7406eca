/- Each pattern hits just where the kind is. Printed by h4.py. -/
import Derived.Test.YtglanajcilfpcaaDoorH4
set_option linter.unusedSimpArgs false
set_option linter.unusedVariables false
set_option maxRecDepth 10000
namespace Go.Ab
open Go.Proofs
theorem m7 (w : BitVec 32) (c : BitVec 32) (o : Nat) (hc : c.toNat = o) : (decide (w &&& 0x7f#32 = c) = true) ↔ fld w 0 7 = o := by
  rw [decide_eq_true_iff, ← mask7 w, ← hc]; exact ⟨fun e => by rw [e], fun e => BitVec.eq_of_toNat_eq e⟩
theorem m10 (w : BitVec 32) (c : BitVec 32) (o f3 : Nat) (ho : o < 128) (hc : c.toNat = 4096 * f3 + o) : (decide (w &&& 0x707f#32 = c) = true) ↔ fld w 0 7 = o ∧ fld w 12 3 = f3 := by
  have h1 := mask10 w; have h2 := fld_lt w 0 7
  rw [decide_eq_true_iff]; constructor
  · intro e; rw [e, hc] at h1; omega
  · intro e; apply BitVec.eq_of_toNat_eq; rw [h1, hc, e.1, e.2]
theorem m17 (w : BitVec 32) (c : BitVec 32) (o f3 f7 : Nat) (ho : o < 128) (h3 : f3 < 8) (hc : c.toNat = 33554432 * f7 + (4096 * f3 + o)) : (decide (w &&& 0xfe00707f#32 = c) = true) ↔ fld w 0 7 = o ∧ fld w 12 3 = f3 ∧ fld w 25 7 = f7 := by
  have h1 := mask17 w; have h2 := fld_lt w 0 7; have h4 := fld_lt w 12 3
  rw [decide_eq_true_iff]; constructor
  · intro e; rw [e, hc] at h1; omega
  · intro e; apply BitVec.eq_of_toNat_eq; rw [h1, hc, e.1, e.2.1, e.2.2]
theorem mall (w : BitVec 32) (c : BitVec 32) (n : Nat) (hc : c.toNat = n) : (decide (w &&& 0xffffffff#32 = c) = true) ↔ w.toNat = n := by
  have e1 : w &&& 0xffffffff#32 = w := by apply BitVec.eq_of_toNat_eq; rw [BitVec.toNat_and]; have := w.isLt; have h := Nat.and_two_pow_sub_one_eq_mod w.toNat 32; simp only [Nat.reducePow, Nat.reduceSub] at h; rw [show (0xffffffff#32).toNat = 4294967295 from rfl, h]; omega
  rw [decide_eq_true_iff, e1, ← hc]; exact ⟨fun e => by rw [e], fun e => BitVec.eq_of_toNat_eq e⟩
theorem exactW (w : BitVec 32) : w.toNat = 0x73 ∨ w.toNat = 0x100073 ∨ w.toNat = 0x30200073 ∨ w.toNat = 0x10500073 → fld w 0 7 = 0x73 ∧ fld w 12 3 = 0 := by
  unfold fld; intro h; omega
theorem hitK (w : BitVec 32) : ∀ k, k < 57 → (hitI w k = true ↔ kindK w = k + 1) := by
  have N := kN_iff (fld w 0 7) (fld w 12 3) (fld w 25 7) w.toNat (fld_lt w 12 3) (exactW w)
  rw [← kindK_eq] at N
  obtain ⟨n0, n1, n2, n3, n4, n5, n6, n7, n8, n9, n10, n11, n12, n13, n14, n15, n16, n17, n18, n19, n20, n21, n22, n23, n24, n25, n26, n27, n28, n29, n30, n31, n32, n33, n34, n35, n36, n37, n38, n39, n40, n41, n42, n43, n44, n45, n46, n47, n48, n49, n50, n51, n52, n53, n54, n55, n56⟩ := N
  intro k hk
  have hk2 : k = 0 ∨ k = 1 ∨ k = 2 ∨ k = 3 ∨ k = 4 ∨ k = 5 ∨ k = 6 ∨ k = 7 ∨ k = 8 ∨ k = 9 ∨ k = 10 ∨ k = 11 ∨ k = 12 ∨ k = 13 ∨ k = 14 ∨ k = 15 ∨ k = 16 ∨ k = 17 ∨ k = 18 ∨ k = 19 ∨ k = 20 ∨ k = 21 ∨ k = 22 ∨ k = 23 ∨ k = 24 ∨ k = 25 ∨ k = 26 ∨ k = 27 ∨ k = 28 ∨ k = 29 ∨ k = 30 ∨ k = 31 ∨ k = 32 ∨ k = 33 ∨ k = 34 ∨ k = 35 ∨ k = 36 ∨ k = 37 ∨ k = 38 ∨ k = 39 ∨ k = 40 ∨ k = 41 ∨ k = 42 ∨ k = 43 ∨ k = 44 ∨ k = 45 ∨ k = 46 ∨ k = 47 ∨ k = 48 ∨ k = 49 ∨ k = 50 ∨ k = 51 ∨ k = 52 ∨ k = 53 ∨ k = 54 ∨ k = 55 ∨ k = 56 := by omega
  rcases hk2 with rfl | rfl | rfl | rfl | rfl | rfl | rfl | rfl | rfl | rfl | rfl | rfl | rfl | rfl | rfl | rfl | rfl | rfl | rfl | rfl | rfl | rfl | rfl | rfl | rfl | rfl | rfl | rfl | rfl | rfl | rfl | rfl | rfl | rfl | rfl | rfl | rfl | rfl | rfl | rfl | rfl | rfl | rfl | rfl | rfl | rfl | rfl | rfl | rfl | rfl | rfl | rfl | rfl | rfl | rfl | rfl | rfl
  · exact (m7 w 55#32 55 rfl).trans n0
  · exact (m7 w 23#32 23 rfl).trans n1
  · exact (m7 w 111#32 111 rfl).trans n2
  · exact (m10 w 103#32 103 0 (by decide) rfl).trans n3
  · exact (m10 w 99#32 99 0 (by decide) rfl).trans n4
  · exact (m10 w 4195#32 99 1 (by decide) rfl).trans n5
  · exact (m10 w 16483#32 99 4 (by decide) rfl).trans n6
  · exact (m10 w 20579#32 99 5 (by decide) rfl).trans n7
  · exact (m10 w 24675#32 99 6 (by decide) rfl).trans n8
  · exact (m10 w 28771#32 99 7 (by decide) rfl).trans n9
  · exact (m10 w 3#32 3 0 (by decide) rfl).trans n10
  · exact (m10 w 4099#32 3 1 (by decide) rfl).trans n11
  · exact (m10 w 8195#32 3 2 (by decide) rfl).trans n12
  · exact (m10 w 16387#32 3 4 (by decide) rfl).trans n13
  · exact (m10 w 20483#32 3 5 (by decide) rfl).trans n14
  · exact (m10 w 35#32 35 0 (by decide) rfl).trans n15
  · exact (m10 w 4131#32 35 1 (by decide) rfl).trans n16
  · exact (m10 w 8227#32 35 2 (by decide) rfl).trans n17
  · exact (m10 w 19#32 19 0 (by decide) rfl).trans n18
  · exact (m10 w 8211#32 19 2 (by decide) rfl).trans n19
  · exact (m10 w 12307#32 19 3 (by decide) rfl).trans n20
  · exact (m10 w 16403#32 19 4 (by decide) rfl).trans n21
  · exact (m10 w 24595#32 19 6 (by decide) rfl).trans n22
  · exact (m10 w 28691#32 19 7 (by decide) rfl).trans n23
  · exact (m17 w 4115#32 19 1 0 (by decide) (by decide) rfl).trans n24
  · exact (m17 w 20499#32 19 5 0 (by decide) (by decide) rfl).trans n25
  · exact (m17 w 1073762323#32 19 5 32 (by decide) (by decide) rfl).trans n26
  · exact (m17 w 51#32 51 0 0 (by decide) (by decide) rfl).trans n27
  · exact (m17 w 1073741875#32 51 0 32 (by decide) (by decide) rfl).trans n28
  · exact (m17 w 4147#32 51 1 0 (by decide) (by decide) rfl).trans n29
  · exact (m17 w 8243#32 51 2 0 (by decide) (by decide) rfl).trans n30
  · exact (m17 w 12339#32 51 3 0 (by decide) (by decide) rfl).trans n31
  · exact (m17 w 16435#32 51 4 0 (by decide) (by decide) rfl).trans n32
  · exact (m17 w 20531#32 51 5 0 (by decide) (by decide) rfl).trans n33
  · exact (m17 w 1073762355#32 51 5 32 (by decide) (by decide) rfl).trans n34
  · exact (m17 w 24627#32 51 6 0 (by decide) (by decide) rfl).trans n35
  · exact (m17 w 28723#32 51 7 0 (by decide) (by decide) rfl).trans n36
  · exact (m10 w 15#32 15 0 (by decide) rfl).trans n37
  · exact (m10 w 4111#32 15 1 (by decide) rfl).trans n38
  · exact (mall w 115#32 115 rfl).trans n39
  · exact (mall w 1048691#32 1048691 rfl).trans n40
  · exact (m10 w 4211#32 115 1 (by decide) rfl).trans n41
  · exact (m10 w 8307#32 115 2 (by decide) rfl).trans n42
  · exact (m10 w 12403#32 115 3 (by decide) rfl).trans n43
  · exact (m10 w 20595#32 115 5 (by decide) rfl).trans n44
  · exact (m10 w 24691#32 115 6 (by decide) rfl).trans n45
  · exact (m10 w 28787#32 115 7 (by decide) rfl).trans n46
  · exact (mall w 807403635#32 807403635 rfl).trans n47
  · exact (mall w 273678451#32 273678451 rfl).trans n48
  · exact (m17 w 33554483#32 51 0 1 (by decide) (by decide) rfl).trans n49
  · exact (m17 w 33558579#32 51 1 1 (by decide) (by decide) rfl).trans n50
  · exact (m17 w 33562675#32 51 2 1 (by decide) (by decide) rfl).trans n51
  · exact (m17 w 33566771#32 51 3 1 (by decide) (by decide) rfl).trans n52
  · exact (m17 w 33570867#32 51 4 1 (by decide) (by decide) rfl).trans n53
  · exact (m17 w 33574963#32 51 5 1 (by decide) (by decide) rfl).trans n54
  · exact (m17 w 33579059#32 51 6 1 (by decide) (by decide) rfl).trans n55
  · exact (m17 w 33583155#32 51 7 1 (by decide) (by decide) rfl).trans n56
theorem ite_lt {c : Prop} [Decidable c] {a b n : Nat} (ha : a < n) (hb : b < n) : (if c then a else b) < n := by split <;> assumption
theorem kindK_lt (w : BitVec 32) : kindK w < 58 := by
  have h3 := fld_lt w 12 3
  rw [kindK_eq]; unfold kN
  have r1 : branchK (fld w 12 3) ≤ 10 := by have := branchR _ h3; omega
  have r2 : loadK (fld w 12 3) ≤ 15 := by have := loadR _ h3; omega
  have r3 := (immR _ (fld w 25 7) h3).2.1; have r4 := (regR _ (fld w 25 7) h3).2.2.1; have r5 := (sysR _ w.toNat h3).2.1
  generalize branchK (fld w 12 3) = K1 at *; generalize loadK (fld w 12 3) = K2 at *; generalize immK (fld w 12 3) (fld w 25 7) = K3 at *; generalize regK (fld w 12 3) (fld w 25 7) = K4 at *; generalize sysK (fld w 12 3) w.toNat = K5 at *
  generalize fld w 12 3 = f at *; generalize fld w 0 7 = o at *
  have h3' : f < 8 := h3
  clear h3
  refine ite_lt (by omega) (ite_lt (by omega) (ite_lt (by omega) (ite_lt (ite_lt (by omega) (by omega)) (ite_lt (by omega) (ite_lt (by omega) (ite_lt (ite_lt (by omega) (by omega)) (ite_lt (by omega) (ite_lt (by omega) (ite_lt (ite_lt (by omega) (by omega)) (ite_lt (by omega) (by omega)))))))))))
end Go.Ab
