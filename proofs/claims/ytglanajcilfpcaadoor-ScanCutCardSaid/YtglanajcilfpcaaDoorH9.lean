/- A word's instruction is right: the program's Right. -/
import Derived.Test.YtglanajcilfpcaaDoorH8
set_option linter.unusedSimpArgs false
set_option linter.unusedVariables false
set_option maxRecDepth 10000
namespace Go.Ab
open Go.Proofs
variable {G : Glo} {h : Heap}
theorem laid_zero (w : BitVec 32) : laidN w 0 = IIn.zero := by
  unfold laidN
  rw [show formN 0 = 0 from rfl]
  simp [IIn.zero, immN]
theorem dec_laid (w : BitVec 32) : decI w = laidN w (kindK w) := by
  unfold decI
  split
  · rename_i e; rw [e, laid_zero]
  · rfl
theorem laid_cells (w : BitVec 32) (n : Nat) : (laidN w n).cells = [.int .i64 n, .int .i64 (if formN n = 0 ∨ formN n = 4 ∨ formN n = 5 then 0 else (fld w 7 5 : Nat)), .int .i64 (if formN n = 3 ∨ formN n = 4 ∨ formN n = 5 ∨ formN n = 6 ∨ formN n = 7 ∨ formN n = 8 then (fld w 15 5 : Nat) else 0), .int .i64 (if formN n = 4 ∨ formN n = 5 ∨ formN n = 6 then (fld w 20 5 : Nat) else 0), .int .u32 ((immN w (formN n)).toNat : Int), .int .i64 (if formN n = 8 ∨ formN n = 9 then (fld w 20 12 : Nat) else 0)] := rfl
theorem immN_0 (w : BitVec 32) (f : Nat) (hf : f = 0 ∨ f = 6 ∨ f = 8) : immN w f = 0#32 := by rcases hf with rfl | rfl | rfl <;> rfl
theorem only_spec (w : BitVec 32) (n : Nat) : Spec Tryd.prog G 67 [.agg (laidN w n).cells, .int .i64 (formN n : Nat)] h (Is (.agg (laidN w n).cells) h) := by
  have hle := formN_le n
  have i0 := immN_0 w
  have p6 : ∀ a b c d e f : AV, partOf [a, b, c, d, e, f] 0 (some 6) = some (.agg [a, b, c, d, e, f]) := fun _ _ _ _ _ _ => rfl
  rw [laid_cells]
  have hf' : formN n = 0 ∨ formN n = 1 ∨ formN n = 2 ∨ formN n = 3 ∨ formN n = 4 ∨ formN n = 5 ∨ formN n = 6 ∨ formN n = 7 ∨ formN n = 8 ∨ formN n = 9 := by omega
  have iz := i0 (formN n)
  clear i0
  generalize hI : immN w (formN n) = I at *
  clear hI
  generalize formN n = f at *
  rcases hf' with rfl | rfl | rfl | rfl | rfl | rfl | rfl | rfl | rfl | rfl <;>
  · simp only [Nat.reduceEqDiff, or_false, or_true, false_or, true_or, if_true, if_false, reduceIte, true_implies, forall_const] at iz ⊢
    try subst iz
    refine Spec.is C67ok rfl ?_
    simp only [push_cast, simprocAttr, p6]
    intro c4 hc4 c5 hc5
    obtain ⟨n5, hc5h⟩ := upd_none hc5
    have u5 : ∀ (H : Heap) X, upd H c5 X c4 = H c4 := fun H X => upd_ne (Ne.symm n5)
    have hs : ∀ X Y Z, Sub h (upd (upd (upd h c4 X) c5 Y) c4 Z) := fun X Y Z => (((Sub.refl h).set hc4).set hc5h).set hc4
    clear hc5
    try simp only [push_cast, simprocAttr, p6, u5]
    first | exact hs _ _ _ | exact ⟨rfl, hs _ _ _⟩ | exact ⟨by simp, hs _ _ _⟩
theorem in_self (i : IIn) : aeq true [.i, .i, .i, .i, .i, .i] (.agg i.cells) (.agg i.cells) = some (.bool false) := by
  simp [aeq, cellsEq, IIn.cells]
theorem reg2_spec (n : Int) (h0 : 0 ≤ n) (h1 : n ≤ 31) : Spec Tryd.prog G 68 [.int .i64 n] h (Is (.bool true) h) := by
  have e : decide (n ≥ 0) = true := decide_eq_true h0
  have e2 : decide (n ≤ 31) = true := decide_eq_true h1
  refine Spec.is C68ok rfl ?_
  simp only [push_cast, simprocAttr, e, e2]
/-- What is right of an instruction that a word is. -/
theorem laid_ok (w : BitVec 32) (n : Nat) : (0 ≤ (laidN w n).rd ∧ (laidN w n).rd ≤ 31) ∧ (0 ≤ (laidN w n).rs1 ∧ (laidN w n).rs1 ≤ 31) ∧ (0 ≤ (laidN w n).rs2 ∧ (laidN w n).rs2 ≤ 31) ∧ 0 ≤ (laidN w n).csr ∧ (laidN w n).csr ≤ 4095 := by
  have l1 := fld_lt w 15 5
  have l2 := fld_lt w 7 5
  have l3 := fld_lt w 20 5
  have l4 := fld_lt w 20 12
  unfold laidN
  simp only
  refine ⟨?_, ?_, ?_, ?_⟩ <;> split <;> omega
theorem iRight_spec (hG : GF G) (w : BitVec 32) (n : Nat) (hn : n < 58) : Spec Tryd.prog G 43 [.agg (laidN w n).cells] h (Is (.bool true) h) := by
  have hf := fun H : Heap => Form_spec (G := G) (h := H) hG n hn
  have ho := fun H : Heap => only_spec (G := G) (h := H) w n
  have hi := fun H : Heap => inumber_spec (G := G) (h := H) w (formN n) (formN_le n)
  obtain ⟨⟨a1, a2⟩, ⟨b1, b2⟩, ⟨c1, c2⟩, d1, d2⟩ := laid_ok w n
  have e1 : (laidN w n).op = n := rfl
  have e2 : (laidN w n).imm = immN w (formN n) := rfl
  have is := in_self (laidN w n)
  rw [← e2] at hi
  generalize laidN w n = I at *
  generalize formN n = f at *
  have r1 := fun H : Heap => reg2_spec (G := G) (h := H) I.rd a1 a2
  have r2 := fun H : Heap => reg2_spec (G := G) (h := H) I.rs1 b1 b2
  have r3 := fun H : Heap => reg2_spec (G := G) (h := H) I.rs2 c1 c2
  have g1 : decide (I.csr ≥ 0) = true := decide_eq_true d1
  have g2 : decide (I.csr ≤ 4095) = true := decide_eq_true d2
  refine Spec.is C43ok rfl ?_
  simp only [push_cast, simprocAttr, e1]
  refine (hf _).to ?_
  simp only [push_cast, simprocAttr, is]
  refine (ho _).to ?_
  simp only [push_cast, simprocAttr, is]
  refine (r1 _).to ?_
  simp only [push_cast, simprocAttr, is]
  refine (r2 _).to ?_
  simp only [push_cast, simprocAttr, is]
  refine (r3 _).to ?_
  simp only [push_cast, simprocAttr, is]
  refine (hi _).to ?_
  simp only [push_cast, simprocAttr, g1, g2]
theorem has3_spec (op : Nat) (ho : op < 58) : Spec Tryd.prog G 47 [.int .i64 op] h (Is (.bool true) h) := by
  have hh := has2_spec (G := G) (h := h) op
  have e : (decide (0 ≤ (op : Int)) && decide ((op : Int) < 58)) = true := by simp; omega
  rw [e] at hh
  exact hh
def endsN (op : Nat) : Bool := decide (op = 0) || (decide (3 ≤ op) && decide (op ≤ 10)) || (decide (39 ≤ op) && decide (op ≤ 49))
theorem Ends_spec (op : Nat) (ho : op < 58) : Spec Tryd.prog G 29 [.int .i64 op] h (Is (.bool (endsN op)) h) := by
  by_cases c0 : op = 0
  · subst c0
    refine Spec.is C29ok rfl ?_
    simp only [push_cast, simprocAttr]
    refine (has3_spec 0 (by omega)).to ?_
    simp only [push_cast, simprocAttr]
    rfl
  have z0 : ((op : Int) == 0) = false := by rw [beq_eq_false_iff_ne]; omega
  by_cases c1 : 3 ≤ op ∧ op ≤ 10
  · have hN : endsN op = true := by simp [endsN, c1.1, c1.2]
    have z1 : ((op : Int) ≥ 3) = True := by simp only [eq_iff_iff, iff_true]; omega
    have z2 : ((op : Int) ≤ 10) = True := by simp only [eq_iff_iff, iff_true]; omega
    rw [hN]
    refine Spec.is C29ok rfl ?_
    simp only [push_cast, simprocAttr]
    refine (has3_spec op ho).to ?_
    simp only [push_cast, simprocAttr, z0, z1, z2]
  by_cases c2 : 39 ≤ op ∧ op ≤ 49
  · have hN : endsN op = true := by simp [endsN, c2.1, c2.2]
    have z1 : ((op : Int) ≥ 3) = True := by simp only [eq_iff_iff, iff_true]; omega
    have z2 : ((op : Int) ≤ 10) = False := by simp only [eq_iff_iff, iff_false]; omega
    have z3 : ((op : Int) ≥ 39) = True := by simp only [eq_iff_iff, iff_true]; omega
    have z4 : ((op : Int) ≤ 49) = True := by simp only [eq_iff_iff, iff_true]; omega
    rw [hN]
    refine Spec.is C29ok rfl ?_
    simp only [push_cast, simprocAttr]
    refine (has3_spec op ho).to ?_
    simp only [push_cast, simprocAttr, z0, z1, z2, z3, z4]
  have hN : endsN op = false := by
    simp only [endsN, Bool.or_eq_false_iff, Bool.and_eq_false_iff, decide_eq_false_iff_not]
    omega
  rw [hN]
  refine Spec.is C29ok rfl ?_
  simp only [push_cast, simprocAttr]
  refine (has3_spec op ho).to ?_
  have d1 : (decide ((op : Int) ≥ 3) && decide ((op : Int) ≤ 10)) = false := by
    simp only [Bool.and_eq_false_iff, decide_eq_false_iff_not]; omega
  have d2 : (decide ((op : Int) ≥ 39) && decide ((op : Int) ≤ 49)) = false := by
    simp only [Bool.and_eq_false_iff, decide_eq_false_iff_not]; omega
  simp only [push_cast, simprocAttr, z0, d1, d2]
def brN (op : Nat) : Bool := decide (5 ≤ op) && decide (op ≤ 10)
theorem branch_spec (op : Nat) : Spec Tryd.prog G 36 [.int .i64 op] h (Is (.bool (brN op)) h) := by
  have hN : brN op = (decide (5 ≤ op) && decide (op ≤ 10)) := rfl
  generalize brN op = N at hN ⊢
  refine Spec.is C36ok rfl ?_
  simp only [push_cast, simprocAttr]
  rw [hN]
  (first | rfl | (congr 1; done) | (congr 1; rw [Bool.eq_iff_iff]; simp only [Bool.and_eq_true, Bool.or_eq_true, Bool.not_eq_true', decide_eq_true_eq, decide_eq_false_iff_not, Bool.false_eq_true, true_and, and_true]; first | omega | grind))
theorem rBranch_spec (op : Nat) : Spec Tryd.prog G 34 [.int .i64 op] h (Is (.bool (brN op)) h) := by
  have hN : brN op = (decide (5 ≤ op) && decide (op ≤ 10)) := rfl
  generalize brN op = N at hN ⊢
  refine Spec.is C34ok rfl ?_
  simp only [push_cast, simprocAttr]
  rw [hN]
  (first | rfl | (congr 1; done) | (congr 1; rw [Bool.eq_iff_iff]; simp only [Bool.and_eq_true, Bool.or_eq_true, Bool.not_eq_true', decide_eq_true_eq, decide_eq_false_iff_not, Bool.false_eq_true, true_and, and_true]; first | omega | grind))
/-- Can a word's instruction be translated? -/
def canN (w : BitVec 32) (n : Nat) : Bool := if n = 3 then decide ((immN w (formN n)).toNat % 4 = 0) else if n = 4 then true else if brN n then true else !endsN n
theorem Can_spec (hG : GF G) (w : BitVec 32) (n : Nat) (hn : n < 58) : Spec Tryd.prog G 22 [.agg (laidN w n).cells] h (Is (.bool (canN w n)) h) := by
  have hr := fun H : Heap => iRight_spec (G := G) (h := H) hG w n hn
  have hb := fun H : Heap => branch_spec (G := G) (h := H) n
  have he := fun H : Heap => Ends_spec (G := G) (h := H) n hn
  have e1 : (laidN w n).op = n := rfl
  have e2 : (laidN w n).imm = immN w (formN n) := rfl
  have hC : canN w n = if n = 3 then decide ((laidN w n).imm.toNat % 4 = 0) else if n = 4 then true else if brN n then true else !endsN n := by rw [canN, e2]
  rw [hC]
  clear hC e2
  generalize laidN w n = I at *
  generalize brN n = B at *
  generalize endsN n = E at *
  by_cases c3 : n = 3
  · subst c3
    refine Spec.is C22ok rfl ?_
    simp only [push_cast, simprocAttr, e1]
    refine (hr _).to ?_
    simp only [push_cast, simprocAttr, e1]
    rw [Int.tmod_eq_emod_of_nonneg (by omega)]
    congr 1
    rw [Bool.eq_iff_iff]
    simp only [beq_iff_eq, decide_eq_true_eq]
    omega
  · have n3 : ((n : Int) = 3) = False := by simp only [eq_iff_iff, iff_false]; omega
    rw [if_neg c3]
    by_cases c4 : n = 4
    · subst c4
      rw [if_pos rfl]
      refine Spec.is C22ok rfl ?_
      simp only [push_cast, simprocAttr, e1]
      refine (hr _).to ?_
      simp only [push_cast, simprocAttr, e1]
    · have n4 : ((n : Int) = 4) = False := by simp only [eq_iff_iff, iff_false]; omega
      rw [if_neg c4]
      refine Spec.is C22ok rfl ?_
      simp only [push_cast, simprocAttr, e1]
      refine (hr _).to ?_
      simp only [push_cast, simprocAttr, e1, n3, n4]
      refine (hb _).to ?_
      cases B
      · simp only [push_cast, simprocAttr, e1]
        refine (he _).to ?_
        simp only [push_cast, simprocAttr]
      · simp only [push_cast, simprocAttr, e1]
end Go.Ab
