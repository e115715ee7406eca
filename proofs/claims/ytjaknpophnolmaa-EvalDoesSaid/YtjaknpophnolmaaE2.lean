/- What instructions reckon: over words alone. -/
import Derived.Test.YtjaknpophnolmaaE1
set_option linter.unusedSimpArgs false
set_option linter.unusedVariables false
set_option maxRecDepth 10000
namespace Go.Ab
open Go.Proofs
variable {G : Glo} {h : Heap}
/-- The instruction of two registers that reckons the same. -/
def plainN (op : Int) : Int := if op = 19 then 28 else if op = 20 then 31 else if op = 21 then 32 else if op = 22 then 33 else if op = 23 then 36 else if op = 24 then 37 else if op = 25 then 30 else if op = 26 then 34 else if op = 27 then 35 else if 19 ≤ op ∧ op ≤ 37 then op else 0
def bit1 (b : Bool) : BitVec 32 := if b then 1 else 0
def aluP (p : Int) (a b : BitVec 32) : BitVec 32 :=
  if p = 28 then a + b else if p = 29 then a - b else if p = 30 then a <<< (b.toNat % 32) else if p = 31 then bit1 (decide (a.toInt < b.toInt)) else if p = 32 then bit1 (decide (a.toNat < b.toNat)) else if p = 33 then a ^^^ b else if p = 34 then a >>> (b.toNat % 32) else if p = 36 then a ||| b else if p = 37 then a &&& b else if p = 35 then a.sshiftRight (b.toNat % 32) else 0
/-- What an instruction reckons of two words (0: nothing). -/
def aluN (op : Int) (a b : BitVec 32) : BitVec 32 := aluP (plainN op) a b
def aluE (op : Int) : Int := if 19 ≤ op ∧ op ≤ 37 then 0 else 9
theorem one_spec (b : Bool) : Spec Try.prog G 51 [.bool b] h (Is (.int .u32 (bit1 b).toNat) h) := by
  refine Spec.is C51ok rfl ?_
  simp only [push_cast, simprocAttr]
  cases b <;> simp [bit1]
theorem rone_spec (b : Bool) : Spec Try.prog G 58 [.bool b] h (Is (.int .u32 (bit1 b).toNat) h) := by
  refine Spec.is C58ok rfl ?_
  simp only [push_cast, simprocAttr]
  cases b <;> simp [bit1]
theorem Plain_spec (op : Int) : Spec Try.prog G 50 [.int .i64 op] h (Is (.int .i64 (plainN op)) h) := by
  refine Spec.is C50ok rfl ?_
  simp only [push_cast, simprocAttr]
  unfold plainN
  refine ⟨fun h1 => ?_, fun h1 => ⟨fun h2 => ?_, fun h2 => ⟨fun h3 => ?_, fun h3 => ⟨fun h4 => ?_, fun h4 => ⟨fun h5 => ?_, fun h5 => ⟨fun h6 => ?_, fun h6 => ⟨fun h7 => ?_, fun h7 => ⟨fun h8 => ?_, fun h8 => ⟨fun h9 => ?_, fun h9 => ?_⟩⟩⟩⟩⟩⟩⟩⟩⟩
  all_goals first
    | (simp [*]; done)
    | (refine (aHas_spec op).to ?_
       simp only [push_cast, simprocAttr]
       simp only [if_neg h1, if_neg h2, if_neg h3, if_neg h4, if_neg h5, if_neg h6, if_neg h7, if_neg h8, if_neg h9]
       first
         | exact ⟨fun h10 => by rw [if_pos h10], fun h10 => by rw [if_neg (by rintro ⟨q1, q2⟩; simp [q1, q2] at h10)]⟩)
theorem plain_range (op : Int) : (plainN op = 0 ∧ ¬ (19 ≤ op ∧ op ≤ 37)) ∨ (28 ≤ plainN op ∧ plainN op ≤ 37 ∧ 19 ≤ op ∧ op ≤ 37) := by
  unfold plainN
  (repeat' split) <;> omega
theorem xor_top (x : Nat) (hx : x < 2 ^ 32) : x ^^^ 2 ^ 31 = (2 ^ 31 + x) % 2 ^ 32 := by
  apply Nat.eq_of_testBit_eq
  intro i
  rw [Nat.testBit_xor, Nat.testBit_two_pow, Nat.testBit_mod_two_pow]
  rcases Nat.lt_trichotomy i 31 with hi | rfl | hi
  · rw [Nat.testBit_two_pow_add_gt hi]
    simp [show ¬ 31 = i by omega, show i < 32 by omega]
  · rw [Nat.testBit_two_pow_add_eq]
    simp
  · have : x.testBit i = false := Nat.testBit_lt_two_pow (Nat.lt_of_lt_of_le hx (Nat.pow_le_pow_right (by omega) (by omega)))
    simp [this, show ¬ 31 = i by omega, show ¬ i < 32 by omega]
theorem toInt_top (x : BitVec 32) : ((x ^^^ 0x80000000#32).toNat : Int) = x.toInt + 2147483648 := by
  have hx := x.isLt
  have h1 : (x ^^^ 0x80000000#32).toNat = (2 ^ 31 + x.toNat) % 2 ^ 32 := by
    rw [BitVec.toNat_xor, ← xor_top _ hx]; rfl
  rw [h1, BitVec.toInt_eq_toNat_cond]
  split <;> omega
theorem and31 (b : BitVec 32) : min (BitVec.setWidth 64 (b &&& 31#32)).toNat 32 = b.toNat % 32 := by
  have := and_mod b 5 (by omega)
  simp only [Nat.reducePow, Nat.reduceSub] at this
  rw [sw64, this]
  omega
theorem sar_eq (a : BitVec 32) (n : Nat) : BitVec.ofInt 32 (a.toInt.fdiv (2 ^ n)) = a.sshiftRight n := by
  rw [pow_int, Int.fdiv_eq_ediv_of_nonneg _ (Int.natCast_nonneg _), BitVec.sshiftRight, Int.shiftRight_eq_div_pow]
theorem Do_alu (op : Int) (a b : BitVec 32) : Spec Try.prog G 21 [.int .i64 op, .int .u32 a.toNat, .int .u32 b.toNat] h (Is (.tup [.int .u32 (aluN op a b).toNat, .int .i64 (aluE op)]) h) := by
  refine Spec.is C21ok rfl ?_
  simp only [push_cast, simprocAttr]
  refine (Plain_spec op).to ?_
  have hr := plain_range op
  have hE : aluE op = if plainN op = 0 then 9 else 0 := by
    unfold aluE
    rcases hr with ⟨h1, h2⟩ | h1
    · rw [if_neg h2, if_pos h1]
    · rw [if_pos ⟨h1.2.2.1, h1.2.2.2⟩, if_neg (by omega)]
  rw [hE, aluN]
  have ht := toInt_top a
  have ht' := toInt_top b
  have hd : decide ((a ^^^ 0x80000000#32).toNat < (b ^^^ 0x80000000#32).toNat) = decide (a.toInt < b.toInt) := by
    rw [decide_eq_decide]; omega
  generalize plainN op = p at *
  simp only [push_cast, simprocAttr, and31, hd]
  unfold aluP
  refine ⟨fun h1 => ?_, fun h1 => ⟨fun h2 => ?_, fun h2 => ⟨fun h3 => ?_, fun h3 => ⟨fun h4 => (one_spec _).to ?_, fun h4 => ⟨fun h5 => (one_spec _).to ?_, fun h5 => ⟨fun h6 => ?_, fun h6 => ⟨fun h7 => ?_, fun h7 => ⟨fun h8 => ?_, fun h8 => ⟨fun h9 => ?_, fun h9 => ⟨fun h10 => ?_, fun h10 => ?_⟩⟩⟩⟩⟩⟩⟩⟩⟩⟩
  · subst h1; simp [BitVec.sub_eq_add_neg]
  · subst h2; simp
  · subst h3; simp
  · simp only [push_cast, simprocAttr]
    subst h4; simp
  · simp only [push_cast, simprocAttr]
    subst h5; simp
  · subst h6; simp
  · subst h7; simp
  · subst h8
    simp only [Int.reduceEq, reduceIte, sar_eq]
  · subst h9; simp
  · subst h10; simp
  · have : p = 0 := by omega
    subst this; simp
/-- What it multiplies and divides. -/
def mdN (op : Int) (a b : BitVec 32) : BitVec 32 :=
  if op = 50 then a * b else if op = 51 then BitVec.ofInt 32 (a.toInt * b.toInt / 4294967296) else if op = 52 then BitVec.ofInt 32 (a.toInt * b.toNat / 4294967296) else if op = 53 then BitVec.ofNat 32 (a.toNat * b.toNat / 4294967296)
  else if op = 54 then (if b = 0#32 then 0xffffffff#32 else BitVec.ofInt 32 (a.toInt.tdiv b.toInt)) else if op = 55 then (if b = 0#32 then 0xffffffff#32 else a / b)
  else if op = 56 then (if b = 0#32 then a else BitVec.ofInt 32 (a.toInt.tmod b.toInt)) else if op = 57 then (if b = 0#32 then a else a % b) else 0
def mdE (op : Int) : Int := if 50 ≤ op ∧ op ≤ 57 then 0 else 9
theorem shr31 (a : BitVec 32) : (((a >>> 31).toNat : Int) == 1) = decide (a.toInt < 0) := by
  rw [Bool.eq_iff_iff, beq_iff_eq, decide_eq_true_eq, BitVec.toNat_ushiftRight, Nat.shiftRight_eq_div_pow, BitVec.toInt_eq_toNat_cond]
  have := a.isLt
  split <;> omega
theorem negative_spec (a : BitVec 32) : Spec Try.prog G 75 [.int .u32 a.toNat] h (Is (.bool (decide (a.toInt < 0))) h) := by
  refine Spec.is C75ok rfl ?_
  simp only [push_cast, simprocAttr]
  rw [show min 31 32 = 31 from rfl, shr31]
theorem and16 (b : BitVec 32) : (b &&& 65535#32).toNat = b.toNat % 65536 := by
  have := and_mod b 16 (by omega)
  simpa using this
theorem prod16 {x y : Nat} (hx : x < 65536) (hy : y < 65536) : x * y ≤ 4294836225 := by
  have := Nat.mul_le_mul (show x ≤ 65535 by omega) (show y ≤ 65535 by omega)
  omega
theorem wide_eq (a b : BitVec 32) : a >>> 16 * b >>> 16 + (a >>> 16 * (b &&& 65535#32) + ((a &&& 65535#32) * (b &&& 65535#32)) >>> 16) >>> 16 +
    ((a &&& 65535#32) * b >>> 16 + (a >>> 16 * (b &&& 65535#32) + ((a &&& 65535#32) * (b &&& 65535#32)) >>> 16 &&& 65535#32)) >>> 16 = BitVec.ofNat 32 (a.toNat * b.toNat / 4294967296) := by
  have ha := a.isLt
  have hb := b.isLt
  apply BitVec.eq_of_toNat_eq
  simp only [BitVec.toNat_add, BitVec.toNat_mul, BitVec.toNat_ushiftRight, and16, Nat.shiftRight_eq_div_pow, BitVec.toNat_ofNat, Nat.reducePow]
  generalize a.toNat = A at *
  generalize b.toNat = B at *
  obtain ⟨x, y, hx, hy, rfl⟩ : ∃ x y, x < 65536 ∧ y < 65536 ∧ A = 65536 * x + y := ⟨A / 65536, A % 65536, by omega, by omega, by omega⟩
  obtain ⟨u, v, hu, hv, rfl⟩ : ∃ u v, u < 65536 ∧ v < 65536 ∧ B = 65536 * u + v := ⟨B / 65536, B % 65536, by omega, by omega, by omega⟩
  rw [show (65536 * x + y) / 65536 = x by omega, show (65536 * x + y) % 65536 = y by omega, show (65536 * u + v) / 65536 = u by omega, show (65536 * u + v) % 65536 = v by omega]
  have e : (65536 * x + y) * (65536 * u + v) = 4294967296 * (x * u) + 65536 * (x * v) + 65536 * (y * u) + y * v := by grind
  have h1 := prod16 hx hu
  have h2 := prod16 hx hv
  have h3 := prod16 hy hu
  have h4 := prod16 hy hv
  rw [e]
  generalize x * u = p at *
  generalize x * v = q at *
  generalize y * u = r at *
  generalize y * v = s at *
  omega
theorem Wide_spec (a b : BitVec 32) : Spec Try.prog G 74 [.int .u32 a.toNat, .int .u32 b.toNat] h (Is (.tup [.int .u32 (BitVec.ofNat 32 (a.toNat * b.toNat / 4294967296)).toNat, .int .u32 (a * b).toNat]) h) := by
  refine Spec.is C74ok rfl ?_
  simp only [push_cast, simprocAttr]
  rw [show min 16 32 = 16 from rfl, wide_eq]
theorem ofInt_congr {x y : Int} (k : Int) (h : x = y + 4294967296 * k) : BitVec.ofInt 32 x = BitVec.ofInt 32 y := by
  apply BitVec.eq_of_toNat_eq
  rw [BitVec.toNat_ofInt, BitVec.toNat_ofInt]
  congr 1
  omega
theorem bv_int (a : BitVec 32) : a = BitVec.ofInt 32 (a.toNat : Int) := by rw [BitVec.ofInt_natCast]; simp
/-- A product's upper half. -/
theorem up_eq (a b : BitVec 32) (sa sb : Bool) : BitVec.ofNat 32 (a.toNat * b.toNat / 4294967296) - (if (sa && decide (a.toInt < 0)) = true then b else 0#32) - (if (sb && decide (b.toInt < 0)) = true then a else 0#32) =
    BitVec.ofInt 32 ((if sa then a.toInt else a.toNat) * (if sb then b.toInt else b.toNat) / 4294967296) := by
  have h0 : BitVec.ofNat 32 (a.toNat * b.toNat / 4294967296) = BitVec.ofInt 32 (((a.toNat : Int) * (b.toNat : Int)) / 4294967296) := by
    rw [← BitVec.ofInt_natCast]; congr 1
  have hz : (0#32) = BitVec.ofInt 32 0 := rfl
  have ha := BitVec.toInt_eq_toNat_cond a
  have hb := BitVec.toInt_eq_toNat_cond b
  have la := a.isLt
  have lb := b.isLt
  have ea : a.toInt = (a.toNat : Int) - (if a.toInt < 0 then 4294967296 else 0) := by split <;> split at ha <;> omega
  have eb : b.toInt = (b.toNat : Int) - (if b.toInt < 0 then 4294967296 else 0) := by split <;> split at hb <;> omega
  clear ha hb
  have fa : (if (sa && decide (a.toInt < 0)) = true then b else 0#32) = BitVec.ofInt 32 (if (sa && decide (a.toInt < 0)) = true then (b.toNat : Int) else 0) := by split; exact bv_int b; rfl
  have fb : (if (sb && decide (b.toInt < 0)) = true then a else 0#32) = BitVec.ofInt 32 (if (sb && decide (b.toInt < 0)) = true then (a.toNat : Int) else 0) := by split; exact bv_int a; rfl
  rw [h0, fa, fb, ← ofInt_sub', ← ofInt_sub']
  generalize a.toInt = x at *
  generalize b.toInt = y at *
  generalize (a.toNat : Int) = A at *
  generalize (b.toNat : Int) = B at *
  have key : ∀ p q : Int, (A - 4294967296 * p) * (B - 4294967296 * q) = A * B + 4294967296 * (4294967296 * (p * q) - p * B - q * A) := by intro p q; grind
  have fin : ∀ p q : Int, (A - 4294967296 * p) * (B - 4294967296 * q) / 4294967296 = A * B / 4294967296 + (4294967296 * (p * q) - p * B - q * A) := by
    intro p q
    rw [key, Int.add_mul_ediv_left _ _ (by omega)]
  have k00 := fin 0 0
  have k01 := fin 0 1
  have k10 := fin 1 0
  have k11 := fin 1 1
  simp only [Int.mul_zero, Int.sub_zero, Int.mul_one, Int.zero_mul, Int.one_mul, Int.zero_sub, Int.sub_self, Int.add_zero] at k00 k01 k10 k11
  cases sa <;> cases sb <;> simp only [Bool.true_and, Bool.false_and, Bool.false_eq_true, reduceIte, decide_eq_true_eq]
  · exact ofInt_congr 0 (by omega)
  · by_cases hy : y < 0
    · rw [if_pos hy] at eb ⊢
      rw [eb, k01]; exact ofInt_congr 0 (by omega)
    · rw [if_neg hy, Int.sub_zero] at eb
      rw [if_neg hy, eb]; exact ofInt_congr 0 (by omega)
  · by_cases hx : x < 0
    · rw [if_pos hx] at ea ⊢
      rw [ea, k10]; exact ofInt_congr 0 (by omega)
    · rw [if_neg hx, Int.sub_zero] at ea
      rw [if_neg hx, ea]; exact ofInt_congr 0 (by omega)
  · by_cases hx : x < 0 <;> by_cases hy : y < 0
    · rw [if_pos hx] at ea ⊢
      rw [if_pos hy] at eb ⊢
      rw [ea, eb, k11]; exact ofInt_congr (-1) (by omega)
    · rw [if_pos hx] at ea ⊢
      rw [if_neg hy, Int.sub_zero] at eb
      rw [if_neg hy, ea, eb, k10]; exact ofInt_congr 0 (by omega)
    · rw [if_neg hx, Int.sub_zero] at ea
      rw [if_pos hy] at eb ⊢
      rw [if_neg hx, ea, eb, k01]; exact ofInt_congr 0 (by omega)
    · rw [if_neg hx, Int.sub_zero] at ea
      rw [if_neg hy, Int.sub_zero] at eb
      rw [if_neg hx, if_neg hy, ea, eb]; exact ofInt_congr 0 (by omega)
theorem upper_spec (a b : BitVec 32) (sa sb : Bool) : Spec Try.prog G 52 [.int .u32 a.toNat, .int .u32 b.toNat, .bool sa, .bool sb] h
    (Is (.int .u32 (BitVec.ofInt 32 ((if sa then a.toInt else a.toNat) * (if sb then b.toInt else b.toNat) / 4294967296)).toNat) h) := by
  rw [← up_eq]
  refine Spec.is C52ok rfl ?_
  simp only [push_cast, simprocAttr]
  refine (Wide_spec a b).to ?_
  cases sa <;> cases sb
  · simp only [push_cast, simprocAttr]
    simp
  · simp only [push_cast, simprocAttr]
    refine (negative_spec b).to ?_
    simp only [push_cast, simprocAttr]
    by_cases hb : b.toInt < 0 <;> simp [hb]
  · simp only [push_cast, simprocAttr]
    refine (negative_spec a).to ?_
    simp only [push_cast, simprocAttr]
    by_cases ha : a.toInt < 0 <;> simp [ha]
  · simp only [push_cast, simprocAttr]
    refine (negative_spec a).to ?_
    simp only [push_cast, simprocAttr]
    by_cases ha : a.toInt < 0
    · simp only [push_cast, simprocAttr, ha]
      refine (negative_spec b).to ?_
      simp only [push_cast, simprocAttr]
      by_cases hb : b.toInt < 0 <;> simp [hb]
    · simp only [push_cast, simprocAttr, ha]
      refine (negative_spec b).to ?_
      simp only [push_cast, simprocAttr]
      by_cases hb : b.toInt < 0 <;> simp [hb]
theorem rright_spec (n : Int) (s : Nat) (h1 : -2147483648 ≤ n) (h2 : n < 2147483648) (hs : s ≤ 31) : Spec Try.prog G 61 [.int .i64 n, .int .i64 s] h (Is (.int .i64 (n / 2 ^ s)) h) := by
  refine Spec.is C61ok rfl ?_
  simp only [push_cast, simprocAttr]
  have hp := Nat.two_pow_pos s
  obtain ⟨P, hP⟩ : ∃ P, 2 ^ s = P := ⟨_, rfl⟩
  have hP2 : P ≤ 2 ^ 31 := hP ▸ Nat.pow_le_pow_right (by omega) hs
  rw [hP] at hp
  rw [show ((2 : Int) ^ s) = (P : Int) by rw [pow_int, hP]]
  refine (PowV (by omega) hP).to ?_
  have h5 : ((P : Int) = 0) = False := by simp; omega
  simp (disch := omega) only [push_cast, simprocAttr, wrap_i64, toNat_ofInt64, Nat.min_eq_left, Int.toNat_of_nonneg, h5]
  have hP0 : (0 : Int) < P := by omega
  refine ⟨fun hn => ?_, fun hn => ?_⟩
  · rw [Int.tdiv_eq_ediv_of_nonneg (by omega)]
    have b1 := Int.ediv_nonneg (show 0 ≤ n by omega) (Int.le_of_lt hP0)
    have b2 := Int.ediv_le_self (P : Int) (show 0 ≤ n by omega)
    rw [wrap_i64 (by omega) (by omega)]
  · rw [Int.tdiv_eq_ediv_of_nonneg (by omega)]
    have e : (P - 1 - n) / (P : Int) = -(n / P) := by
      have e1 := Int.emod_add_mul_ediv n P
      have e2 := Int.emod_nonneg n (show (P : Int) ≠ 0 by omega)
      have e3 := Int.emod_lt_of_pos n hP0
      refine ((Int.ediv_emod_unique (r := P - 1 - n % P) hP0).2 ⟨?_, by omega, by omega⟩).1
      rw [Int.mul_neg]
      omega
    have b1 := Int.ediv_nonneg (show 0 ≤ P - 1 - n by omega) (Int.le_of_lt hP0)
    have b2 := Int.ediv_le_self (P : Int) (show 0 ≤ P - 1 - n by omega)
    rw [wrap_i64 (x := (P - 1 - n) / P) (by omega) (by omega), wrap_i64 (by omega) (by omega), e]
    congr 1; omega
theorem high_spec (n : Int) (h1 : -9223372036854775807 ≤ n) (h2 : n < 9223372036854775807) : Spec Try.prog G 55 [.int .i64 n] h (Is (.int .u32 (BitVec.ofInt 32 (n / 4294967296)).toNat) h) := by
  refine Spec.is C55ok rfl ?_
  simp (disch := omega) only [push_cast, simprocAttr, wrap_i64, toNat_ofInt64, Nat.min_eq_left, Int.toNat_of_nonneg]
  refine ⟨fun hn => ?_, fun hn => ?_⟩
  · rw [Int.tdiv_eq_ediv_of_nonneg (by omega), wrap_i64 (by omega) (by omega)]
    refine (Word_spec _).to ?_
    simp only [push_cast, simprocAttr]
  · rw [Int.tdiv_eq_ediv_of_nonneg (by omega), wrap_i64 (x := (0 - (n + 1)) / 4294967296) (by omega) (by omega), wrap_i64 (x := 0 - (0 - (n + 1)) / 4294967296) (by omega) (by omega), wrap_i64 (by omega) (by omega)]
    rw [show 0 - (0 - (n + 1)) / 4294967296 - 1 = n / 4294967296 by omega]
    refine (Word_spec _).to ?_
    simp only [push_cast, simprocAttr]
theorem size_spec (a : BitVec 32) : Spec Try.prog G 89 [.int .u32 a.toNat] h (Is (.int .u32 (BitVec.ofNat 32 a.toInt.natAbs).toNat) h) := by
  refine Spec.is C89ok rfl ?_
  simp only [push_cast, simprocAttr]
  refine (negative_spec a).to ?_
  have ha := BitVec.toInt_eq_toNat_cond a
  have la := a.isLt
  simp only [push_cast, simprocAttr]
  refine ⟨fun h1 => ?_, fun h1 => ?_⟩
  · congr 2
    rw [BitVec.toNat_sub, BitVec.toNat_ofNat, BitVec.toNat_ofNat]
    split at ha <;> omega
  · congr 2
    rw [BitVec.toNat_ofNat]
    split at ha <;> omega
abbrev wd (a : BitVec 32) : AV := .int .u32 a.toNat
abbrev cell1 (a : BitVec 32) : Blk := ⟨[wd a], 0⟩
def dPost (h : Heap) (pq pr : Nat) (q r : BitVec 32) (h' : Heap) : Prop := h' pq = some (cell1 q) ∧ h' pr = some (cell1 r) ∧ ∀ c, c ≠ pq → c ≠ pr → h' c = h c
theorem divided1_spec {pa pb pq pr : Nat} (a b q r q1 r1 : BitVec 32) (ha : h pa = some (cell1 a)) (hb : h pb = some (cell1 b)) (hq : h pq = some (cell1 q)) (hr : h pr = some (cell1 r)) (n1 : pa ≠ pq) (n2 : pq ≠ pr)
    (hq1 : q1 = if decide (a.toInt < 0) != decide (b.toInt < 0) then 0 - q else q) (hr1 : r1 = if a.toInt < 0 then 0 - r else r) :
    SpecD Try.prog G 88 [.ptr pa 0, .ptr pb 0, .ptr pq 0, .ptr pr 0] h (fun _ h' => dPost h pq pr q1 r1 h') := by
  refine SpecD.walk C88ok rfl ?_
  simp only [push_cast, simprocAttr, ha, hb]
  refine (negative_spec a).to ?_
  simp only [push_cast, simprocAttr, ha, hb]
  refine (negative_spec b).to ?_
  simp only [push_cast, simprocAttr, ha, hb]
  have key : ∀ (q' : BitVec 32) (h1 : Heap), h1 = upd h pq (cell1 q') → h1 pa = some (cell1 a) ∧ h1 pr = some (cell1 r) ∧ h1 pq = some (cell1 q') := by
    rintro q' _ rfl
    exact ⟨by rw [upd_ne n1]; exact ha, by rw [upd_ne (Ne.symm n2)]; exact hr, upd_same _ _ _⟩
  have fin : ∀ (q' : BitVec 32) (h1 : Heap), h1 = upd h pq (cell1 q') → ∀ r' : BitVec 32, dPost h pq pr q' r' (upd h1 pr (cell1 r')) := by
    rintro q' _ rfl r'
    exact ⟨by rw [upd_ne n2]; exact upd_same _ _ _, upd_same _ _ _, fun c h1 h2 => by rw [upd_ne h2, upd_ne h1]⟩
  have hself : h = upd h pq (cell1 q) := (upd_self hq).symm
  refine ⟨fun h1 => ?_, fun h1 => ?_⟩
  · simp only [push_cast, simprocAttr, hq]
    obtain ⟨k1, k2, k3⟩ := key (0#32 - q) _ rfl
    have f := fin (0#32 - q) _ rfl
    have hc : (decide (a.toInt < 0) != decide (b.toInt < 0)) = true := by rw [bne_iff_ne]; exact h1
    rw [if_pos hc] at hq1
    subst hq1
    generalize upd h pq (cell1 (0#32 - q)) = h1 at *
    simp only [push_cast, simprocAttr, k1]
    refine (negative_spec a).to ?_
    simp only [push_cast, simprocAttr, k1, k2]
    refine ⟨fun h2 => ?_, fun h2 => ?_⟩
    · rw [if_pos h2] at hr1
      subst hr1
      exact f (0#32 - r)
    · rw [if_neg h2] at hr1
      subst hr1
      have := f r1
      rwa [upd_self k2] at this
  · obtain ⟨k1, k2, k3⟩ := key q h hself
    have f := fin q h hself
    have hc : ¬ (decide (a.toInt < 0) != decide (b.toInt < 0)) = true := by rw [bne_iff_ne]; exact fun q => q h1
    rw [if_neg hc] at hq1
    subst hq1
    refine (negative_spec a).to ?_
    simp only [push_cast, simprocAttr, k1, k2]
    refine ⟨fun h2 => ?_, fun h2 => ?_⟩
    · rw [if_pos h2] at hr1
      subst hr1
      exact f (0#32 - r)
    · rw [if_neg h2] at hr1
      subst hr1
      have := f r1
      rwa [upd_self k2] at this
theorem SpecD.mono {P : Program} {f : FuncId} {args : List AV} {h : Heap} {Q Q' : AV → Heap → Prop} (hs : SpecD P G f args h Q) (hq : ∀ r h', Q r h' → Q' r h') : SpecD P G f args h Q' :=
  fun w vs u h1 h2 h3 => (hs w vs u h1 h2 h3).mono fun _ _ _ ⟨e, v, r, h', a, b, c⟩ => ⟨e, v, r, h', a, hq _ _ b, c⟩
theorem Spec.isD {P : Program} {f : FuncId} {fn : Func} {x y : ACode} {d g : Nat} {caps : List Operand} {rs : List RV} {args : List AV} {h h1 : Heap} {v : AV} (ho : Okd P f fn x (d, g, caps) y rs)
    (hn : Nat.ble args.length fn.ntmps = true) (hw : wpc P G fn.ntmps x (midC P G fn.ntmps d g caps y rs (IsS v h1)) (argEnv args) h) : Spec P G f args h (Is v h1) :=
  Spec.drop ((Spec.walkD ho hn hw).mono fun _ _ ⟨e1, e2⟩ => ⟨h1, e2, e1, rfl⟩)
theorem div_zero_iff (b : BitVec 32) (hb : b ≠ 0#32) : b.toInt ≠ 0 := fun e => hb (by rw [← BitVec.toInt_inj, e]; rfl)
theorem abs_le (a : BitVec 32) : a.toInt.natAbs ≤ 2147483648 := by
  have ha := BitVec.toInt_eq_toNat_cond a
  have la := a.isLt
  split at ha <;> omega
theorem size_nat (a : BitVec 32) : (BitVec.ofNat 32 a.toInt.natAbs).toNat = a.toInt.natAbs := by
  have := abs_le a
  rw [BitVec.toNat_ofNat]; omega
/-- Quotient and rest, by sizes and signs. -/
theorem quo_sign (a b : BitVec 32) : BitVec.ofInt 32 (a.toInt.tdiv b.toInt) = if decide (a.toInt < 0) != decide (b.toInt < 0) then 0 - BitVec.ofNat 32 (a.toInt.natAbs / b.toInt.natAbs) else BitVec.ofNat 32 (a.toInt.natAbs / b.toInt.natAbs) := by
  have hz : (0 : BitVec 32) = BitVec.ofInt 32 0 := rfl
  generalize a.toInt = x
  generalize b.toInt = y
  have k : ∀ m n : Nat, ((m : Int) : Int).tdiv n = ((m / n : Nat) : Int) := fun m n => by simp
  rw [← BitVec.ofInt_natCast, hz, ← ofInt_sub']
  by_cases hx : x < 0 <;> by_cases hy : y < 0 <;> simp only [hx, hy, decide_true, decide_false, bne_self_eq_false, Bool.false_eq_true, reduceIte, Bool.true_bne, Bool.false_bne, Bool.not_false, Bool.not_true]
  · have e1 : x = -((x.natAbs : Nat) : Int) := by omega
    have e2 : y = -((y.natAbs : Nat) : Int) := by omega
    rw [e1, e2, Int.neg_tdiv, Int.tdiv_neg, k]; simp
  · have e1 : x = -((x.natAbs : Nat) : Int) := by omega
    have e2 : y = ((y.natAbs : Nat) : Int) := by omega
    rw [e1, e2, Int.neg_tdiv, k]; simp
  · have e1 : x = ((x.natAbs : Nat) : Int) := by omega
    have e2 : y = -((y.natAbs : Nat) : Int) := by omega
    rw [e1, e2, Int.tdiv_neg, k]; simp
  · have e1 : x = ((x.natAbs : Nat) : Int) := by omega
    have e2 : y = ((y.natAbs : Nat) : Int) := by omega
    rw [e1, e2, k]; simp
theorem rem_sign (a b : BitVec 32) : BitVec.ofInt 32 (a.toInt.tmod b.toInt) = if a.toInt < 0 then 0 - BitVec.ofNat 32 (a.toInt.natAbs % b.toInt.natAbs) else BitVec.ofNat 32 (a.toInt.natAbs % b.toInt.natAbs) := by
  have hz : (0 : BitVec 32) = BitVec.ofInt 32 0 := rfl
  generalize a.toInt = x
  generalize b.toInt = y
  have k : ∀ m n : Nat, ((m : Int) : Int).tmod n = ((m % n : Nat) : Int) := fun m n => rfl
  rw [← BitVec.ofInt_natCast, hz, ← ofInt_sub']
  have e0 : x.tmod y = x.tmod ((y.natAbs : Nat) : Int) := by
    by_cases hy : y < 0
    · have e2 : y = -((y.natAbs : Nat) : Int) := by omega
      rw [e2, Int.tmod_neg]; simp
    · have e2 : y = ((y.natAbs : Nat) : Int) := by omega
      rw [← e2]
  rw [e0]
  by_cases hx : x < 0
  · have e1 : x = -((x.natAbs : Nat) : Int) := by omega
    rw [if_pos hx]
    rw [e1, Int.neg_tmod, k]; simp
  · have e1 : x = ((x.natAbs : Nat) : Int) := by omega
    rw [if_neg hx]
    rw [e1, k]; simp
theorem divided_spec (a b : BitVec 32) (hb : b ≠ 0#32) : Spec Try.prog G 76 [.int .u32 a.toNat, .int .u32 b.toNat] h
    (Is (.tup [.int .u32 (BitVec.ofInt 32 (a.toInt.tdiv b.toInt)).toNat, .int .u32 (BitVec.ofInt 32 (a.toInt.tmod b.toInt)).toNat]) h) := by
  refine Spec.isD C76ok rfl ?_
  simp only [push_cast, simprocAttr]
  intro c1 h1 c2 h2 c3 h3 c4 h4
  obtain ⟨n4, h4'⟩ := upd_none h4
  obtain ⟨n42, h4''⟩ := upd_none h4'
  obtain ⟨n41, h40⟩ := upd_none h4''
  obtain ⟨n32, h3'⟩ := upd_none h3
  obtain ⟨n31, h30⟩ := upd_none h3'
  obtain ⟨n21, h20⟩ := upd_none h2
  clear h4 h4' h4'' h3 h3' h2
  obtain ⟨H, hH⟩ : ∃ H, upd (upd (upd (upd h c1 ⟨[.int .u32 a.toNat], 0⟩) c2 ⟨[.int .u32 b.toNat], 0⟩) c3 ⟨[.int .u32 0], 0⟩) c4 ⟨[.int .u32 0], 0⟩ = H := ⟨_, rfl⟩
  have k1 : H c1 = some (cell1 a) := by rw [← hH, upd_ne (Ne.symm n41), upd_ne (Ne.symm n31), upd_ne (Ne.symm n21), upd_same]
  have k2 : H c2 = some (cell1 b) := by rw [← hH, upd_ne (Ne.symm n42), upd_ne (Ne.symm n32), upd_same]
  have k3 : H c3 = some (cell1 0) := by rw [← hH, upd_ne (Ne.symm n4), upd_same]; rfl
  have k4 : H c4 = some (cell1 0) := by rw [← hH, upd_same]; rfl
  have hs : ∀ c, c ≠ c1 → c ≠ c2 → c ≠ c3 → c ≠ c4 → H c = h c := by
    intro c q1 q2 q3 q4
    rw [← hH, upd_ne q4, upd_ne q3, upd_ne q2, upd_ne q1]
  rw [hH]
  clear hH
  simp only [push_cast, simprocAttr, k1, k2]
  refine (size_spec a).to ?_
  simp only [push_cast, simprocAttr, k1, k2]
  refine (size_spec b).to ?_
  have hbz := div_zero_iff b hb
  have hz : (((BitVec.ofNat 32 b.toInt.natAbs).toNat : Int) = 0) = False := by rw [size_nat]; simp; omega
  simp only [push_cast, simprocAttr, k1, k2, hz]
  refine (size_spec a).to ?_
  simp only [push_cast, simprocAttr, k1, k2, hz]
  refine (size_spec b).to ?_
  simp only [push_cast, simprocAttr, k1, k2, hz]
  have hq : BitVec.ofInt 32 (((BitVec.ofNat 32 a.toInt.natAbs).toNat : Int) / ((BitVec.ofNat 32 b.toInt.natAbs).toNat : Int)) = BitVec.ofNat 32 (a.toInt.natAbs / b.toInt.natAbs) := by
    rw [size_nat, size_nat, ← Int.natCast_ediv, BitVec.ofInt_natCast]
  have hm : (((BitVec.ofNat 32 a.toInt.natAbs).toNat : Int) % ((BitVec.ofNat 32 b.toInt.natAbs).toNat : Int)) = ((BitVec.ofNat 32 (a.toInt.natAbs % b.toInt.natAbs)).toNat : Int) := by
    have h1 := abs_le a
    have h2 : a.toInt.natAbs % b.toInt.natAbs ≤ a.toInt.natAbs := Nat.mod_le _ _
    rw [size_nat, size_nat, ← Int.natCast_emod]
    congr 1
    rw [BitVec.toNat_ofNat]
    exact (Nat.mod_eq_of_lt (by omega)).symm
  rw [hq, hm]
  obtain ⟨q, hqq⟩ : ∃ q, BitVec.ofNat 32 (a.toInt.natAbs / b.toInt.natAbs) = q := ⟨_, rfl⟩
  obtain ⟨r, hrr⟩ : ∃ r, BitVec.ofNat 32 (a.toInt.natAbs % b.toInt.natAbs) = r := ⟨_, rfl⟩
  have q1 := quo_sign a b
  have r1 := rem_sign a b
  rw [hqq] at q1 ⊢
  rw [hrr] at r1 ⊢
  simp only [push_cast, simprocAttr, k3]
  obtain ⟨H1, e1⟩ : ∃ H1, upd H c3 (cell1 q) = H1 := ⟨_, rfl⟩
  have l1 : H1 c1 = some (cell1 a) := by rw [← e1, upd_ne (Ne.symm n31), k1]
  have l2 : H1 c2 = some (cell1 b) := by rw [← e1, upd_ne (Ne.symm n32), k2]
  have l3 : H1 c3 = some (cell1 q) := by rw [← e1, upd_same]
  have l4 : H1 c4 = some (cell1 0) := by rw [← e1, upd_ne n4, k4]
  have ls : ∀ c, c ≠ c1 → c ≠ c2 → c ≠ c3 → c ≠ c4 → H1 c = h c := by
    intro c q1 q2 q3 q4
    rw [← e1, upd_ne q3, hs c q1 q2 q3 q4]
  rw [e1]
  clear e1
  simp only [push_cast, simprocAttr, l4]
  obtain ⟨H2, e2⟩ : ∃ H2, upd H1 c4 (cell1 r) = H2 := ⟨_, rfl⟩
  have m1 : H2 c1 = some (cell1 a) := by rw [← e2, upd_ne (Ne.symm n41), l1]
  have m2 : H2 c2 = some (cell1 b) := by rw [← e2, upd_ne (Ne.symm n42), l2]
  have m3 : H2 c3 = some (cell1 q) := by rw [← e2, upd_ne (Ne.symm n4), l3]
  have m4 : H2 c4 = some (cell1 r) := by rw [← e2, upd_same]
  have ms : ∀ c, c ≠ c1 → c ≠ c2 → c ≠ c3 → c ≠ c4 → H2 c = h c := by
    intro c q1 q2 q3 q4
    rw [← e2, upd_ne q4, ls c q1 q2 q3 q4]
  rw [e2]
  clear e2
  refine ⟨by rw [if_neg (by rw [hz]; exact id), hm, hrr], SpecD.mono (divided1_spec a b q r _ _ m1 m2 m3 m4 (Ne.symm n31) (Ne.symm n4) q1 r1) ?_⟩
  rintro _ h5 ⟨p1, p2, p3⟩
  simp only [push_cast, simprocAttr, p1, p2]
  intro c x hc
  have hne : ∀ d, h d = none → c ≠ d := fun d hd e => by rw [e, hd] at hc; cases hc
  have f1 := hne _ h1
  have f2 := hne _ h20
  have f3 := hne _ h30
  have f4 := hne _ h40
  rw [p3 c f3 f4, ms c f1 f2 f3 f4]
  exact hc
end Go.Ab
