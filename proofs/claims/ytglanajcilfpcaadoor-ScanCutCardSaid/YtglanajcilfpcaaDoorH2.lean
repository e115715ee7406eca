/- Words read as instructions: forms, immediate numbers, and the program's Decode. -/
import Derived.Test.YtglanajcilfpcaaDoorH1
set_option linter.unusedSimpArgs false
set_option linter.unusedVariables false
set_option maxRecDepth 10000
namespace Go.Ab
open Go.Proofs
variable {G : Glo} {h : Heap}
theorem fld7_and (w : BitVec 32) : (w &&& 127#32) = BitVec.ofNat 32 (fld w 0 7) := by
  have h1 := mask7 w
  have h2 := fld_lt w 0 7
  apply BitVec.eq_of_toNat_eq
  rw [BitVec.toNat_ofNat, Nat.mod_eq_of_lt (by omega)]
  exact h1
theorem kind_spec (w : BitVec 32) : Spec Tryd.prog G 103 [.int .u32 w.toNat] h (Is (.int .i64 (kindK w : Nat)) h) := by
  obtain ⟨x, e1, e2, hx⟩ := f3_eq w
  have hf := field_spec (G := G) (h := h) w 14 12 (by omega) (by omega)
  rw [show 14 - 12 + 1 = 3 from rfl, e1] at hf
  have hb := kbranch_spec (G := G) (h := h) x hx
  have hl := kload_spec (G := G) (h := h) x hx
  have hi := kimm_spec (G := G) (h := h) w
  have hr := kreg_spec (G := G) (h := h) w
  have hs := ksys_spec (G := G) (h := h) w
  have h7 := mask7 w
  have ho := fld_lt w 0 7
  have hK : kindK w = (if fld w 0 7 = 0x37 then 1 else if fld w 0 7 = 0x17 then 2 else if fld w 0 7 = 0x6f then 3 else if fld w 0 7 = 0x67 then (if x.toNat = 0 then 4 else 0) else if fld w 0 7 = 0x63 then branchK x.toNat else if fld w 0 7 = 0x03 then loadK x.toNat
    else if fld w 0 7 = 0x23 then (if x.toNat < 3 then 16 + x.toNat else 0) else if fld w 0 7 = 0x13 then immK x.toNat (fld w 25 7) else if fld w 0 7 = 0x33 then regK x.toNat (fld w 25 7) else if fld w 0 7 = 0x0f then (if x.toNat < 2 then 38 + x.toNat else 0) else if fld w 0 7 = 0x73 then sysK x.toNat w.toNat else 0) := by rw [kindK, e2]
  rw [← e2] at hi hr hs
  generalize kindK w = K at hK ⊢
  generalize immK x.toNat (fld w 25 7) = K1 at *
  generalize regK x.toNat (fld w 25 7) = K2 at *
  generalize sysK x.toNat w.toNat = K3 at *
  generalize branchK x.toNat = K4 at *
  generalize loadK x.toNat = K5 at *
  have h7' : ((w &&& 127#32).toNat : Int) = (fld w 0 7 : Nat) := by rw [h7]
  generalize fld w 0 7 = o at *
  refine Spec.is C103ok rfl ?_
  simp only [push_cast, simprocAttr]
  refine hf.to ?_
  simp (disch := omega) only [push_cast, simprocAttr, wrap_i64, toNat_ofInt64, Nat.min_eq_left, Int.toNat_of_nonneg, h7']
  clear hf h7 h7' e1 e2 hx
  by_cases c55 : o = 55
  · rw [if_pos c55] at hK
    have p55 : ((o : Int) = 55) = True := by simp [c55]
    simp only [p55, true_implies, not_true_eq_false, not_false_eq_true, false_implies, and_true, true_and]
    rw [hK]; rfl
  rw [if_neg c55] at hK
  have n55 : ((o : Int) = 55) = False := by simp only [eq_iff_iff, iff_false]; omega
  by_cases c23 : o = 23
  · rw [if_pos c23] at hK
    have p23 : ((o : Int) = 23) = True := by simp [c23]
    simp only [n55, p23, true_implies, not_true_eq_false, not_false_eq_true, false_implies, and_true, true_and]
    rw [hK]; rfl
  rw [if_neg c23] at hK
  have n23 : ((o : Int) = 23) = False := by simp only [eq_iff_iff, iff_false]; omega
  by_cases c111 : o = 111
  · rw [if_pos c111] at hK
    have p111 : ((o : Int) = 111) = True := by simp [c111]
    simp only [n55, n23, p111, true_implies, not_true_eq_false, not_false_eq_true, false_implies, and_true, true_and]
    rw [hK]; rfl
  rw [if_neg c111] at hK
  have n111 : ((o : Int) = 111) = False := by simp only [eq_iff_iff, iff_false]; omega
  by_cases c103 : o = 103
  · rw [if_pos c103] at hK
    have p103 : ((o : Int) = 103) = True := by simp [c103]
    simp only [n55, n23, n111, p103, true_implies, not_true_eq_false, not_false_eq_true, false_implies, and_true, true_and]
    refine ⟨fun q => ?_, fun q => ?_⟩ <;> (congr 1; split at hK <;> omega)
  rw [if_neg c103] at hK
  have n103 : ((o : Int) = 103) = False := by simp only [eq_iff_iff, iff_false]; omega
  by_cases c99 : o = 99
  · rw [if_pos c99] at hK
    have p99 : ((o : Int) = 99) = True := by simp [c99]
    simp only [n55, n23, n111, n103, p99, true_implies, not_true_eq_false, not_false_eq_true, false_implies, and_true, true_and]
    refine hb.to ?_
    simp only [push_cast, simprocAttr]
    rw [hK]
  rw [if_neg c99] at hK
  have n99 : ((o : Int) = 99) = False := by simp only [eq_iff_iff, iff_false]; omega
  by_cases c3 : o = 3
  · rw [if_pos c3] at hK
    have p3 : ((o : Int) = 3) = True := by simp [c3]
    simp only [n55, n23, n111, n103, n99, p3, true_implies, not_true_eq_false, not_false_eq_true, false_implies, and_true, true_and]
    refine hl.to ?_
    simp only [push_cast, simprocAttr]
    rw [hK]
  rw [if_neg c3] at hK
  have n3 : ((o : Int) = 3) = False := by simp only [eq_iff_iff, iff_false]; omega
  by_cases c35 : o = 35
  · rw [if_pos c35] at hK
    have p35 : ((o : Int) = 35) = True := by simp [c35]
    simp only [n55, n23, n111, n103, n99, n3, p35, true_implies, not_true_eq_false, not_false_eq_true, false_implies, and_true, true_and]
    refine ⟨fun q => ?_, fun q => ?_⟩ <;> (congr 1; split at hK <;> omega)
  rw [if_neg c35] at hK
  have n35 : ((o : Int) = 35) = False := by simp only [eq_iff_iff, iff_false]; omega
  by_cases c19 : o = 19
  · rw [if_pos c19] at hK
    have p19 : ((o : Int) = 19) = True := by simp [c19]
    simp only [n55, n23, n111, n103, n99, n3, n35, p19, true_implies, not_true_eq_false, not_false_eq_true, false_implies, and_true, true_and]
    refine hi.to ?_
    simp only [push_cast, simprocAttr]
    rw [hK]
  rw [if_neg c19] at hK
  have n19 : ((o : Int) = 19) = False := by simp only [eq_iff_iff, iff_false]; omega
  by_cases c51 : o = 51
  · rw [if_pos c51] at hK
    have p51 : ((o : Int) = 51) = True := by simp [c51]
    simp only [n55, n23, n111, n103, n99, n3, n35, n19, p51, true_implies, not_true_eq_false, not_false_eq_true, false_implies, and_true, true_and]
    refine hr.to ?_
    simp only [push_cast, simprocAttr]
    rw [hK]
  rw [if_neg c51] at hK
  have n51 : ((o : Int) = 51) = False := by simp only [eq_iff_iff, iff_false]; omega
  by_cases c15 : o = 15
  · rw [if_pos c15] at hK
    have p15 : ((o : Int) = 15) = True := by simp [c15]
    simp only [n55, n23, n111, n103, n99, n3, n35, n19, n51, p15, true_implies, not_true_eq_false, not_false_eq_true, false_implies, and_true, true_and]
    refine ⟨fun q => ?_, fun q => ?_⟩ <;> (congr 1; split at hK <;> omega)
  rw [if_neg c15] at hK
  have n15 : ((o : Int) = 15) = False := by simp only [eq_iff_iff, iff_false]; omega
  by_cases c115 : o = 115
  · rw [if_pos c115] at hK
    have p115 : ((o : Int) = 115) = True := by simp [c115]
    simp only [n55, n23, n111, n103, n99, n3, n35, n19, n51, n15, p115, true_implies, not_true_eq_false, not_false_eq_true, false_implies, and_true, true_and]
    refine hs.to ?_
    simp only [push_cast, simprocAttr]
    rw [hK]
  rw [if_neg c115] at hK
  have n115 : ((o : Int) = 115) = False := by simp only [eq_iff_iff, iff_false]; omega
  simp only [n55, n23, n111, n103, n99, n3, n35, n19, n51, n15, n115, not_false_eq_true, true_implies, false_implies, true_and]
  rw [hK]; rfl
/-- The instructions' forms. -/
def formL : List Nat := [0, 1, 1, 2, 3, 4, 4, 4, 4, 4, 4, 3, 3, 3, 3, 3, 5, 5, 5, 3, 3, 3, 3, 3, 3, 7, 7, 7, 6, 6, 6, 6, 6, 6, 6, 6, 6, 6, 3, 3, 0, 0, 8, 8, 8, 9, 9, 9, 0, 0, 6, 6, 6, 6, 6, 6, 6, 6]
def formC : List AV := formL.map fun n : Nat => .int .i64 (n : Int)
def formN (op : Nat) : Nat := formL.getD op 0
theorem formC_get (op : Nat) (h : op < 58) : formC[op]? = some (.int .i64 (formN op : Nat)) := by
  have : formL.length = 58 := rfl
  simp only [formC, List.getElem?_map, formN, List.getD_eq_getElem?_getD]
  rw [List.getElem?_eq_getElem (by omega)]
  rfl
theorem formC_len : formC.length = 58 := rfl
/-- What the program knows of its variables: the forms. -/
def GF (G : Glo) : Prop := G 0 = .cp formC 0
theorem has2_spec (op : Int) : Spec Tryd.prog G 47 [.int .i64 op] h (Is (.bool (decide (0 ≤ op) && decide (op < 58))) h) := by
  refine Spec.is C47ok rfl ?_
  simp only [push_cast, simprocAttr]
  try (first | rfl | (congr 1; done) | (congr 1; rw [Bool.eq_iff_iff]; simp only [Bool.and_eq_true, Bool.or_eq_true, Bool.not_eq_true', decide_eq_true_eq, decide_eq_false_iff_not, Bool.false_eq_true, true_and, and_true]; first | omega | grind))
theorem Form_spec (hG : GF G) (op : Nat) (ho : op < 58) : Spec Tryd.prog G 66 [.int .i64 op] h (Is (.tup [.int .i64 (formN op : Nat), .int .i64 0]) h) := by
  have hh := has2_spec (G := G) (h := h) op
  have e : (decide (0 ≤ (op : Int)) && decide ((op : Int) < 58)) = true := by simp; omega
  rw [e] at hh
  have hg : G 0 = .cp formC 0 := hG
  have hf := formC_get op ho
  have hl := formC_len
  refine Spec.is C66ok rfl ?_
  simp only [push_cast, simprocAttr]
  refine hh.to ?_
  simp only [push_cast, simprocAttr, hg, hf, hl]
  omega
theorem Form_no (op : Int) (ho : op < 0 ∨ 58 ≤ op) : Spec Tryd.prog G 66 [.int .i64 op] h (Is (.tup [.int .i64 0, .int .i64 9]) h) := by
  have hh := has2_spec (G := G) (h := h) op
  have e : (decide (0 ≤ (op : Int)) && decide ((op : Int) < 58)) = false := by simp; omega
  rw [e] at hh
  refine Spec.is C66ok rfl ?_
  simp only [push_cast, simprocAttr]
  refine hh.to ?_
  simp only [push_cast, simprocAttr]
theorem top_spec (w : BitVec 32) (k : Nat) (hk : k ≤ 31) : Spec Tryd.prog G 125 [.int .u32 w.toNat, .int .u64 k] h (Is (.int .u32 (BitVec.ofNat 32 (if fld w 31 1 = 1 then 2 ^ 32 - 2 ^ k else 0)).toNat) h) := by
  have hw := w.isLt
  have e31 : w.toInt.fdiv (2 ^ 31) = if fld w 31 1 = 1 then -1 else 0 := by
    rw [Int.fdiv_eq_ediv_of_nonneg _ (by omega)]
    have h1 := BitVec.toInt_eq_toNat_cond w
    have h2 : fld w 31 1 = w.toNat / 2 ^ 31 % 2 ^ 1 := rfl
    rw [h1, h2]
    split <;> split <;> omega
  have hP : 2 ^ k ≤ 2 ^ 31 := Nat.pow_le_pow_right (by omega) hk
  have hp0 := Nat.two_pow_pos k
  have ek : ((2 : Int) ^ k) = ((2 ^ k : Nat) : Int) := pow_int k
  refine Spec.is C125ok rfl ?_
  simp (disch := omega) only [push_cast, simprocAttr, wrap_i64, toNat_ofInt64, Nat.min_eq_left, Int.toNat_of_nonneg]
  rw [show (2147483648 : Int) = 2 ^ 31 from rfl, e31, ek]
  generalize 2 ^ k = P at hP hp0 ⊢
  split
  · have e1 : IntKind.i32.wrap (-1 * (P : Int)) = -(P : Int) := by
      rw [wrap_of (by constructor <;> simp [IntKind.min, IntKind.max, IntKind.signed, IntKind.bits] <;> omega)]; omega
    rw [e1]
    congr 2
    rw [BitVec.toNat_ofInt, BitVec.toNat_ofNat]
    omega
  · have e1 : IntKind.i32.wrap (0 * (P : Int)) = 0 := by rw [Int.zero_mul]; rfl
    rw [e1]; rfl
end Go.Ab
