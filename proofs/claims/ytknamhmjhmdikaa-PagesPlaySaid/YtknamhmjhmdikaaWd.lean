/- Words of 8, 32 and 64 bits as bit vectors; places as numbers. -/
import Derived.Test.YtknamhmjhmdikaaAbW
namespace Go.Ab
theorem wr_u (w : Nat) (n : Int) : n % (2 ^ w : Int) = ((BitVec.ofInt w n).toNat : Int) := by
  rw [BitVec.toNat_ofInt, Int.toNat_of_nonneg (Int.emod_nonneg _ (by have : 0 < 2 ^ w := Nat.two_pow_pos w; exact_mod_cast Nat.ne_of_gt this))]
  simp
@[push_cast] theorem wr_u8 (n : Int) : IntKind.u8.wrap n = ((BitVec.ofInt 8 n).toNat : Int) := by simp only [IntKind.wrap, IntKind.signed, IntKind.bits, Bool.false_and, Bool.false_eq_true, if_false]; exact wr_u 8 n
@[push_cast] theorem wr_u16 (n : Int) : IntKind.u16.wrap n = ((BitVec.ofInt 16 n).toNat : Int) := by simp only [IntKind.wrap, IntKind.signed, IntKind.bits, Bool.false_and, Bool.false_eq_true, if_false]; exact wr_u 16 n
@[push_cast] theorem wr_u32 (n : Int) : IntKind.u32.wrap n = ((BitVec.ofInt 32 n).toNat : Int) := by simp only [IntKind.wrap, IntKind.signed, IntKind.bits, Bool.false_and, Bool.false_eq_true, if_false]; exact wr_u 32 n
@[push_cast] theorem wr_u64 (n : Int) : IntKind.u64.wrap n = ((BitVec.ofInt 64 n).toNat : Int) := by simp only [IntKind.wrap, IntKind.signed, IntKind.bits, Bool.false_and, Bool.false_eq_true, if_false]; exact wr_u 64 n
@[push_cast] theorem bits_u8 : IntKind.u8.bits = 8 := rfl
@[push_cast] theorem bits_u16 : IntKind.u16.bits = 16 := rfl
@[push_cast] theorem bits_u32 : IntKind.u32.bits = 32 := rfl
@[push_cast] theorem bits_u64 : IntKind.u64.bits = 64 := rfl
@[push_cast] theorem bits_i64 : IntKind.i64.bits = 64 := rfl
@[push_cast] theorem ofInt_toNat {m n : Nat} (x : BitVec n) : BitVec.ofInt m (x.toNat : Int) = x.setWidth m := by
  rw [BitVec.ofInt_natCast, BitVec.ofNat_toNat]
@[push_cast] theorem toNat_neg (x : Nat) : ((x : Int) < 0) = False := by simp
@[push_cast] theorem fdiv_shr {n s : Nat} (x : BitVec n) : (x.toNat : Int).fdiv (2 ^ s) = ((x >>> s).toNat : Int) := by
  rw [Int.fdiv_eq_ediv_of_nonneg _ (by have : 0 < 2 ^ s := Nat.two_pow_pos s; exact_mod_cast Nat.le_of_lt this), BitVec.toNat_ushiftRight, Nat.shiftRight_eq_div_pow]
  simp
@[push_cast 1100] theorem ofInt_shl {n s : Nat} (x : BitVec n) : BitVec.ofInt n ((x.toNat : Int) * 2 ^ s) = x <<< s := by
  have : ((x.toNat : Int) * 2 ^ s) = ((x.toNat * 2 ^ s : Nat) : Int) := by simp
  rw [this, BitVec.ofInt_natCast]
  apply BitVec.eq_of_toNat_eq
  rw [BitVec.toNat_ofNat, BitVec.toNat_shiftLeft, Nat.shiftLeft_eq]
@[push_cast] theorem ofInt_add_l {n : Nat} (x : BitVec n) (k : Int) : BitVec.ofInt n ((x.toNat : Int) + k) = x + BitVec.ofInt n k := by rw [BitVec.ofInt_add, ofInt_toNat, BitVec.setWidth_eq]
@[push_cast] theorem ofInt_add_r {n : Nat} (x : BitVec n) (k : Int) : BitVec.ofInt n (k + (x.toNat : Int)) = BitVec.ofInt n k + x := by rw [BitVec.ofInt_add, ofInt_toNat, BitVec.setWidth_eq]
@[push_cast] theorem ofInt_mul_l {n : Nat} (x : BitVec n) (k : Int) : BitVec.ofInt n ((x.toNat : Int) * k) = x * BitVec.ofInt n k := by rw [BitVec.ofInt_mul, ofInt_toNat, BitVec.setWidth_eq]
@[push_cast] theorem ofInt_mul_r {n : Nat} (x : BitVec n) (k : Int) : BitVec.ofInt n (k * (x.toNat : Int)) = BitVec.ofInt n k * x := by rw [BitVec.ofInt_mul, ofInt_toNat, BitVec.setWidth_eq]
theorem ofInt_sub' {n : Nat} (a b : Int) : BitVec.ofInt n (a - b) = BitVec.ofInt n a - BitVec.ofInt n b := by rw [Int.sub_eq_add_neg, BitVec.ofInt_add, BitVec.ofInt_neg, BitVec.sub_eq_add_neg]
@[push_cast] theorem ofInt_sub_l {n : Nat} (x : BitVec n) (k : Int) : BitVec.ofInt n ((x.toNat : Int) - k) = x - BitVec.ofInt n k := by rw [ofInt_sub', ofInt_toNat, BitVec.setWidth_eq]
@[push_cast] theorem ofInt_sub_r {n : Nat} (x : BitVec n) (k : Int) : BitVec.ofInt n (k - (x.toNat : Int)) = BitVec.ofInt n k - x := by rw [ofInt_sub', ofInt_toNat, BitVec.setWidth_eq]
theorem toNat_ofInt64 {x : Int} (h0 : 0 ≤ x) (h1 : x < 18446744073709551616) : (BitVec.ofInt 64 x).toNat = x.toNat := by
  rw [BitVec.toNat_ofInt]; congr 1; omega
theorem toNat_ofInt32 {x : Int} (h0 : 0 ≤ x) (h1 : x < 4294967296) : (BitVec.ofInt 32 x).toNat = x.toNat := by
  rw [BitVec.toNat_ofInt]; congr 1; omega
@[push_cast] theorem two_pow_ne {s : Nat} : ((2 : Int) ^ s = 0) = False := by
  have : ((2 : Int) ^ s) = ((2 ^ s : Nat) : Int) := by simp
  have h2 := Nat.two_pow_pos s
  rw [this]
  simp only [eq_iff_iff, iff_false]
  omega
theorem or_shl {n : Nat} (x y s : Nat) (hx : x < 2 ^ s) : BitVec.ofNat n x ||| (BitVec.ofNat n y <<< s) = BitVec.ofNat n (x + 2 ^ s * y) := by
  have h1 : BitVec.ofNat n y <<< s = BitVec.ofNat n (2 ^ s * y) := by
    apply BitVec.eq_of_toNat_eq
    simp only [BitVec.toNat_shiftLeft, BitVec.toNat_ofNat, Nat.shiftLeft_eq, Nat.mod_mul_mod]
    rw [Nat.mul_comm]
  rw [h1, ← BitVec.ofNat_or, Nat.or_comm, ← Nat.two_pow_add_eq_or_of_lt hx, Nat.add_comm]
@[push_cast] theorem tdiv_pow {n s : Nat} (x : BitVec n) : (x.toNat : Int).tdiv (2 ^ s) = ((x >>> s).toNat : Int) := by
  have : ((2 : Int) ^ s) = ((2 ^ s : Nat) : Int) := by simp
  rw [this, BitVec.toNat_ushiftRight, Nat.shiftRight_eq_div_pow]
  simp
@[push_cast] theorem ofInt8_tmod {n : Nat} (x : BitVec n) : BitVec.ofInt 8 ((x.toNat : Int).tmod 256) = x.setWidth 8 := by
  have : (x.toNat : Int).tmod 256 = ((x.toNat % 256 : Nat) : Int) := rfl
  rw [this, BitVec.ofInt_natCast]
  apply BitVec.eq_of_toNat_eq
  simp
@[push_cast] theorem shr_setWidth {s : Nat} (w : BitVec 32) : ((w.setWidth 64 >>> s).setWidth 8) = (w >>> s).setWidth 8 := by
  apply BitVec.eq_of_toNat_eq
  have := w.isLt
  simp only [BitVec.toNat_setWidth, BitVec.toNat_ushiftRight, Nat.shiftRight_eq_div_pow]
  rw [Nat.mod_eq_of_lt (show w.toNat < 2 ^ 64 by omega)]
@[push_cast] theorem tdiv_nat (a b : Nat) : (a : Int).tdiv (b : Int) = ((a / b : Nat) : Int) := by simp
@[push_cast] theorem tmod_nat (a b : Nat) : (a : Int).tmod (b : Int) = ((a % b : Nat) : Int) := rfl
@[push_cast] theorem beq_toNat {n : Nat} (x y : BitVec n) : ((x.toNat : Int) == (y.toNat : Int)) = (x == y) := by
  rw [Bool.eq_iff_iff]; simp only [beq_iff_eq, Int.natCast_inj, BitVec.toNat_inj]
@[push_cast] theorem bne_toNat {n : Nat} (x y : BitVec n) : ((x.toNat : Int) != (y.toNat : Int)) = (x != y) := by
  simp only [bne, beq_toNat]
@[push_cast] theorem abin_and_u8 (a b : Int) : abin .and (.int .u8 a) (.int .u8 b) = some (.int .u8 ((BitVec.ofInt 8 a &&& BitVec.ofInt 8 b).toNat : Int)) := by
  show (if IntKind.u8 = IntKind.u8 then some (AV.int .u8 (IntKind.u8.wrap ((BitVec.ofInt 8 a &&& BitVec.ofInt 8 b).toNat : Int))) else none) = _
  rw [if_pos rfl, wr_u8, ofInt_toNat, BitVec.setWidth_eq]
@[push_cast] theorem abin_or_u8 (a b : Int) : abin .or (.int .u8 a) (.int .u8 b) = some (.int .u8 ((BitVec.ofInt 8 a ||| BitVec.ofInt 8 b).toNat : Int)) := by
  show (if IntKind.u8 = IntKind.u8 then some (AV.int .u8 (IntKind.u8.wrap ((BitVec.ofInt 8 a ||| BitVec.ofInt 8 b).toNat : Int))) else none) = _
  rw [if_pos rfl, wr_u8, ofInt_toNat, BitVec.setWidth_eq]
@[push_cast] theorem abin_xor_u8 (a b : Int) : abin .xor (.int .u8 a) (.int .u8 b) = some (.int .u8 ((BitVec.ofInt 8 a ^^^ BitVec.ofInt 8 b).toNat : Int)) := by
  show (if IntKind.u8 = IntKind.u8 then some (AV.int .u8 (IntKind.u8.wrap ((BitVec.ofInt 8 a ^^^ BitVec.ofInt 8 b).toNat : Int))) else none) = _
  rw [if_pos rfl, wr_u8, ofInt_toNat, BitVec.setWidth_eq]
@[push_cast] theorem abin_andNot_u8 (a b : Int) : abin .andNot (.int .u8 a) (.int .u8 b) = some (.int .u8 ((BitVec.ofInt 8 a &&& ~~~ BitVec.ofInt 8 b).toNat : Int)) := by
  show (if IntKind.u8 = IntKind.u8 then some (AV.int .u8 (IntKind.u8.wrap ((BitVec.ofInt 8 a &&& ~~~ BitVec.ofInt 8 b).toNat : Int))) else none) = _
  rw [if_pos rfl, wr_u8, ofInt_toNat, BitVec.setWidth_eq]
@[push_cast] theorem abin_and_u32 (a b : Int) : abin .and (.int .u32 a) (.int .u32 b) = some (.int .u32 ((BitVec.ofInt 32 a &&& BitVec.ofInt 32 b).toNat : Int)) := by
  show (if IntKind.u32 = IntKind.u32 then some (AV.int .u32 (IntKind.u32.wrap ((BitVec.ofInt 32 a &&& BitVec.ofInt 32 b).toNat : Int))) else none) = _
  rw [if_pos rfl, wr_u32, ofInt_toNat, BitVec.setWidth_eq]
@[push_cast] theorem abin_or_u32 (a b : Int) : abin .or (.int .u32 a) (.int .u32 b) = some (.int .u32 ((BitVec.ofInt 32 a ||| BitVec.ofInt 32 b).toNat : Int)) := by
  show (if IntKind.u32 = IntKind.u32 then some (AV.int .u32 (IntKind.u32.wrap ((BitVec.ofInt 32 a ||| BitVec.ofInt 32 b).toNat : Int))) else none) = _
  rw [if_pos rfl, wr_u32, ofInt_toNat, BitVec.setWidth_eq]
@[push_cast] theorem abin_xor_u32 (a b : Int) : abin .xor (.int .u32 a) (.int .u32 b) = some (.int .u32 ((BitVec.ofInt 32 a ^^^ BitVec.ofInt 32 b).toNat : Int)) := by
  show (if IntKind.u32 = IntKind.u32 then some (AV.int .u32 (IntKind.u32.wrap ((BitVec.ofInt 32 a ^^^ BitVec.ofInt 32 b).toNat : Int))) else none) = _
  rw [if_pos rfl, wr_u32, ofInt_toNat, BitVec.setWidth_eq]
@[push_cast] theorem abin_andNot_u32 (a b : Int) : abin .andNot (.int .u32 a) (.int .u32 b) = some (.int .u32 ((BitVec.ofInt 32 a &&& ~~~ BitVec.ofInt 32 b).toNat : Int)) := by
  show (if IntKind.u32 = IntKind.u32 then some (AV.int .u32 (IntKind.u32.wrap ((BitVec.ofInt 32 a &&& ~~~ BitVec.ofInt 32 b).toNat : Int))) else none) = _
  rw [if_pos rfl, wr_u32, ofInt_toNat, BitVec.setWidth_eq]
@[push_cast] theorem abin_and_u64 (a b : Int) : abin .and (.int .u64 a) (.int .u64 b) = some (.int .u64 ((BitVec.ofInt 64 a &&& BitVec.ofInt 64 b).toNat : Int)) := by
  show (if IntKind.u64 = IntKind.u64 then some (AV.int .u64 (IntKind.u64.wrap ((BitVec.ofInt 64 a &&& BitVec.ofInt 64 b).toNat : Int))) else none) = _
  rw [if_pos rfl, wr_u64, ofInt_toNat, BitVec.setWidth_eq]
@[push_cast] theorem abin_or_u64 (a b : Int) : abin .or (.int .u64 a) (.int .u64 b) = some (.int .u64 ((BitVec.ofInt 64 a ||| BitVec.ofInt 64 b).toNat : Int)) := by
  show (if IntKind.u64 = IntKind.u64 then some (AV.int .u64 (IntKind.u64.wrap ((BitVec.ofInt 64 a ||| BitVec.ofInt 64 b).toNat : Int))) else none) = _
  rw [if_pos rfl, wr_u64, ofInt_toNat, BitVec.setWidth_eq]
@[push_cast] theorem abin_xor_u64 (a b : Int) : abin .xor (.int .u64 a) (.int .u64 b) = some (.int .u64 ((BitVec.ofInt 64 a ^^^ BitVec.ofInt 64 b).toNat : Int)) := by
  show (if IntKind.u64 = IntKind.u64 then some (AV.int .u64 (IntKind.u64.wrap ((BitVec.ofInt 64 a ^^^ BitVec.ofInt 64 b).toNat : Int))) else none) = _
  rw [if_pos rfl, wr_u64, ofInt_toNat, BitVec.setWidth_eq]
@[push_cast] theorem abin_andNot_u64 (a b : Int) : abin .andNot (.int .u64 a) (.int .u64 b) = some (.int .u64 ((BitVec.ofInt 64 a &&& ~~~ BitVec.ofInt 64 b).toNat : Int)) := by
  show (if IntKind.u64 = IntKind.u64 then some (AV.int .u64 (IntKind.u64.wrap ((BitVec.ofInt 64 a &&& ~~~ BitVec.ofInt 64 b).toNat : Int))) else none) = _
  rw [if_pos rfl, wr_u64, ofInt_toNat, BitVec.setWidth_eq]
theorem len_bne (a b : Nat) : ((a : Int) != (b : Int)) = decide (a ≠ b) := by
  rw [Bool.eq_iff_iff]; simp; omega
@[push_cast] theorem len_beq (a b : Nat) : ((a : Int) == (b : Int)) = decide (a = b) := by
  rw [Bool.eq_iff_iff]; simp; omega
theorem wrap_of {k : IntKind} {x : Int} (h : k.min ≤ x ∧ x ≤ k.max) : k.wrap x = x := by
  unfold IntKind.wrap
  obtain ⟨h1, h2⟩ := h
  cases k <;> simp [IntKind.signed, IntKind.bits, IntKind.min, IntKind.max] at * <;> omega
theorem wrap_i64 {x : Int} (h1 : -9223372036854775808 ≤ x) (h2 : x ≤ 9223372036854775807) : IntKind.i64.wrap x = x := wrap_of ⟨h1, h2⟩
@[push_cast] theorem i64_toNat (x : BitVec 32) : IntKind.i64.wrap (x.toNat : Int) = x.toNat := wrap_i64 (by omega) (by have := x.isLt; omega)
@[push_cast] theorem i64_toNat8 (x : BitVec 8) : IntKind.i64.wrap (x.toNat : Int) = x.toNat := wrap_i64 (by omega) (by have := x.isLt; omega)
theorem sw64 (x : BitVec 32) : (BitVec.setWidth 64 x).toNat = x.toNat := by
  rw [BitVec.toNat_setWidth, Nat.mod_eq_of_lt (by have := x.isLt; omega)]
theorem sw64_8 (x : BitVec 8) : (BitVec.setWidth 64 x).toNat = x.toNat := by
  rw [BitVec.toNat_setWidth, Nat.mod_eq_of_lt (by have := x.isLt; omega)]
theorem sw32_8 (x : BitVec 8) : (BitVec.setWidth 32 x).toNat = x.toNat := by
  rw [BitVec.toNat_setWidth, Nat.mod_eq_of_lt (by have := x.isLt; omega)]
def bys (l : List (BitVec 8)) : List AV := l.map fun x => .int .u8 (x.toNat : Int)
def wds (l : List (BitVec 32)) : List AV := l.map fun x => .int .u32 (x.toNat : Int)
@[push_cast] theorem bys_len (l) : (bys l).length = l.length := by simp [bys]
@[push_cast] theorem wds_len (l) : (wds l).length = l.length := by simp [wds]
@[push_cast] theorem bys_get (l : List (BitVec 8)) (i : Nat) : (bys l)[i]? = if i < l.length then some (AV.int .u8 ((l.getD i 0#8).toNat : Int)) else none := by
  simp only [bys, List.getElem?_map]
  split
  · rename_i h; simp [h]
  · rename_i h; simp [Nat.not_lt.1 h]
@[push_cast] theorem wds_get (l : List (BitVec 32)) (i : Nat) : (wds l)[i]? = if i < l.length then some (AV.int .u32 ((l.getD i 0#32).toNat : Int)) else none := by
  simp only [wds, List.getElem?_map]
  split
  · rename_i h; simp [h]
  · rename_i h; simp [Nat.not_lt.1 h]
theorem bys_app (a b) : bys (a ++ b) = bys a ++ bys b := by simp [bys]
theorem wds_app (a b) : wds (a ++ b) = wds a ++ wds b := by simp [wds]
theorem bys_drop (a : List (BitVec 8)) (n : Nat) : (bys a).drop n = bys (a.drop n) := by simp [bys, List.map_drop]
theorem bys_take (a : List (BitVec 8)) (n : Nat) : (bys a).take n = bys (a.take n) := by simp [bys, List.map_take]
/-- Bytes, as data. -/
abbrev byt (l : List (BitVec 8)) : AV := .ro (bys l) l.length
attribute [push_cast] decide_true decide_false BitVec.toNat_inj beq_iff_eq beq_eq_false_iff_ne bne_iff_ne bne_eq_false_iff_eq Bool.and_eq_true Bool.or_eq_true Bool.or_eq_false_iff Bool.bne_false BitVec.setWidth_eq decide_eq_true_eq decide_eq_false_iff_not Bool.not_eq_true Bool.not_eq_false Nat.min_self
end Go.Ab
