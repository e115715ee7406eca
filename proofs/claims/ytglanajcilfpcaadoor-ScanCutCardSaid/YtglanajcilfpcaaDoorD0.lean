/- Words as instructions: what fields are, over numbers alone. -/
import Derived.Test.YtglanajcilfpcaaDoorWd
set_option linter.unusedSimpArgs false
set_option linter.unusedVariables false
namespace Go.Ab
/-- Bits of a word, from lo on, k of them. -/
def fld (w : BitVec 32) (lo k : Nat) : Nat := w.toNat / 2 ^ lo % 2 ^ k
theorem fld_lt (w : BitVec 32) (lo k : Nat) : fld w lo k < 2 ^ k := Nat.mod_lt _ (Nat.two_pow_pos k)
theorem shl_shr_fld (w : BitVec 32) (hi lo : Nat) (h1 : lo ≤ hi) (h2 : hi ≤ 31) : ((w <<< (31 - hi)) >>> (31 - hi + lo)).toNat = fld w lo (hi - lo + 1) := by
  rw [BitVec.toNat_ushiftRight, BitVec.toNat_shiftLeft, Nat.shiftRight_eq_div_pow, Nat.shiftLeft_eq]
  unfold fld
  have e1 : 2 ^ 32 = 2 ^ (hi + 1) * 2 ^ (31 - hi) := by rw [← Nat.pow_add]; congr 1; omega
  rw [e1, Nat.mul_mod_mul_right, Nat.pow_add 2 (31 - hi) lo, ← Nat.div_div_eq_div_mul, Nat.mul_div_cancel _ (Nat.two_pow_pos _)]
  have e2 : 2 ^ (hi + 1) = 2 ^ lo * 2 ^ (hi - lo + 1) := by rw [← Nat.pow_add]; congr 1; omega
  rw [e2, Nat.mod_mul_right_div_self]
theorem and_mod (w : BitVec 32) (k : Nat) (hk : k ≤ 32) : (w &&& BitVec.ofNat 32 (2 ^ k - 1)).toNat = w.toNat % 2 ^ k := by
  have h : 2 ^ k - 1 < 2 ^ 32 := by have := Nat.pow_le_pow_right (show 0 < 2 by omega) hk; have := Nat.two_pow_pos k; omega
  rw [BitVec.toNat_and, BitVec.toNat_ofNat, Nat.mod_eq_of_lt h, Nat.and_two_pow_sub_one_eq_mod]
theorem and_hi (x a b k : Nat) (hb : b < 2 ^ k) : x &&& (2 ^ k * a + b) = 2 ^ k * (x / 2 ^ k &&& a) + (x % 2 ^ k &&& b) := by
  apply Nat.eq_of_testBit_eq
  intro i
  have hb' : (x % 2 ^ k &&& b) < 2 ^ k := Nat.lt_of_le_of_lt Nat.and_le_right hb
  rw [Nat.testBit_and, Nat.testBit_two_pow_mul_add _ hb, Nat.testBit_two_pow_mul_add _ hb']
  split
  · rename_i hi
    rw [Nat.testBit_and, Nat.testBit_mod_two_pow]
    simp [hi]
  · rename_i hi
    rw [Nat.testBit_and, Nat.testBit_div_two_pow]
    congr 2; omega
/-- A word under the masks of the patterns. -/
theorem mask7 (w : BitVec 32) : (w &&& 0x7f#32).toNat = fld w 0 7 := by
  have := and_mod w 7 (by omega)
  simpa [fld] using this
theorem mask10 (w : BitVec 32) : (w &&& 0x707f#32).toNat = 4096 * fld w 12 3 + fld w 0 7 := by
  rw [BitVec.toNat_and]
  have h1 := and_hi w.toNat 7 127 12 (by decide)
  have h2 := Nat.and_two_pow_sub_one_eq_mod (w.toNat / 4096) 3
  have h3 := Nat.and_two_pow_sub_one_eq_mod (w.toNat % 4096) 7
  simp only [Nat.reducePow, Nat.reduceMul, Nat.reduceAdd, Nat.reduceSub] at h1 h2 h3
  rw [show (0x707f#32).toNat = 28799 from rfl, h1, h2, h3]
  unfold fld
  simp only [Nat.reducePow, Nat.div_one]
  omega
theorem mask17 (w : BitVec 32) : (w &&& 0xfe00707f#32).toNat = 33554432 * fld w 25 7 + (4096 * fld w 12 3 + fld w 0 7) := by
  rw [BitVec.toNat_and]
  have h0 := and_hi w.toNat 127 28799 25 (by decide)
  have h1 := and_hi (w.toNat % 33554432) 7 127 12 (by decide)
  have h2 := Nat.and_two_pow_sub_one_eq_mod (w.toNat % 33554432 / 4096) 3
  have h3 := Nat.and_two_pow_sub_one_eq_mod (w.toNat % 33554432 % 4096) 7
  have h4 := Nat.and_two_pow_sub_one_eq_mod (w.toNat / 33554432) 7
  simp only [Nat.reducePow, Nat.reduceMul, Nat.reduceAdd, Nat.reduceSub] at h0 h1 h2 h3 h4
  rw [show (0xfe00707f#32).toNat = 4261441663 from rfl, h0, h1, h2, h3, h4]
  unfold fld
  simp only [Nat.reducePow, Nat.div_one]
  omega
/-- An instruction. -/
structure IIn where
  op : Int
  rd : Int
  rs1 : Int
  rs2 : Int
  imm : BitVec 32
  csr : Int
  deriving DecidableEq
def IIn.zero : IIn := ⟨0, 0, 0, 0, 0, 0⟩
def IIn.cells (i : IIn) : List AV := [.int .i64 i.op, .int .i64 i.rd, .int .i64 i.rs1, .int .i64 i.rs2, .int .u32 (i.imm.toNat : Int), .int .i64 i.csr]
section
variable (i : IIn)
@[push_cast] theorem IIn.len : i.cells.length = 6 := rfl
@[push_cast] theorem IIn.c0 : i.cells[0]? = some (.int .i64 i.op) := rfl
@[push_cast] theorem IIn.c1 : i.cells[1]? = some (.int .i64 i.rd) := rfl
@[push_cast] theorem IIn.c2 : i.cells[2]? = some (.int .i64 i.rs1) := rfl
@[push_cast] theorem IIn.c3 : i.cells[3]? = some (.int .i64 i.rs2) := rfl
@[push_cast] theorem IIn.c4 : i.cells[4]? = some (.int .u32 (i.imm.toNat : Int)) := rfl
@[push_cast] theorem IIn.c5 : i.cells[5]? = some (.int .i64 i.csr) := rfl
@[push_cast] theorem IIn.pall : partOf i.cells 0 (some 6) = some (.agg i.cells) := rfl
end
/-- A word's kind; 0: it is no instruction. -/
def immK (f3 f7 : Nat) : Nat := if f3 = 0 then 19 else if f3 = 2 then 20 else if f3 = 3 then 21 else if f3 = 4 then 22 else if f3 = 6 then 23 else if f3 = 7 then 24 else if f3 = 1 then (if f7 = 0 then 25 else 0) else if f7 = 0 then 26 else if f7 = 32 then 27 else 0
def regK (f3 f7 : Nat) : Nat := if f7 = 0 then [28, 30, 31, 32, 33, 34, 36, 37].getD f3 0 else if f7 = 1 then 50 + f3 else if f7 = 32 then (if f3 = 0 then 29 else if f3 = 5 then 35 else 0) else 0
def sysK (f3 : Nat) (w : Nat) : Nat := if f3 = 1 ∨ f3 = 2 ∨ f3 = 3 then 41 + f3 else if f3 = 5 ∨ f3 = 6 ∨ f3 = 7 then 40 + f3 else if w = 0x73 then 40 else if w = 0x100073 then 41 else if w = 0x30200073 then 48 else if w = 0x10500073 then 49 else 0
def branchK (f3 : Nat) : Nat := if f3 = 0 ∨ f3 = 1 then 5 + f3 else if f3 = 4 ∨ f3 = 5 ∨ f3 = 6 ∨ f3 = 7 then 3 + f3 else 0
def loadK (f3 : Nat) : Nat := if f3 = 0 ∨ f3 = 1 ∨ f3 = 2 then 11 + f3 else if f3 = 4 ∨ f3 = 5 then 10 + f3 else 0
def kindK (w : BitVec 32) : Nat :=
  let o := fld w 0 7; let f3 := fld w 12 3; let f7 := fld w 25 7
  if o = 0x37 then 1 else if o = 0x17 then 2 else if o = 0x6f then 3 else if o = 0x67 then (if f3 = 0 then 4 else 0) else if o = 0x63 then branchK f3 else if o = 0x03 then loadK f3
  else if o = 0x23 then (if f3 < 3 then 16 + f3 else 0) else if o = 0x13 then immK f3 f7 else if o = 0x33 then regK f3 f7 else if o = 0x0f then (if f3 < 2 then 38 + f3 else 0) else if o = 0x73 then sysK f3 w.toNat else 0
/-- The patterns of all instructions, from 1 on. -/
def pats : List (BitVec 32 × BitVec 32) := [(0x0000007f, 0x00000037), (0x0000007f, 0x00000017), (0x0000007f, 0x0000006f), (0x0000707f, 0x00000067), (0x0000707f, 0x00000063), (0x0000707f, 0x00001063), (0x0000707f, 0x00004063), (0x0000707f, 0x00005063), (0x0000707f, 0x00006063), (0x0000707f, 0x00007063), (0x0000707f, 0x00000003), (0x0000707f, 0x00001003), (0x0000707f, 0x00002003), (0x0000707f, 0x00004003), (0x0000707f, 0x00005003), (0x0000707f, 0x00000023), (0x0000707f, 0x00001023), (0x0000707f, 0x00002023), (0x0000707f, 0x00000013), (0x0000707f, 0x00002013), (0x0000707f, 0x00003013), (0x0000707f, 0x00004013), (0x0000707f, 0x00006013), (0x0000707f, 0x00007013), (0xfe00707f, 0x00001013), (0xfe00707f, 0x00005013), (0xfe00707f, 0x40005013), (0xfe00707f, 0x00000033), (0xfe00707f, 0x40000033), (0xfe00707f, 0x00001033), (0xfe00707f, 0x00002033), (0xfe00707f, 0x00003033), (0xfe00707f, 0x00004033), (0xfe00707f, 0x00005033), (0xfe00707f, 0x40005033), (0xfe00707f, 0x00006033), (0xfe00707f, 0x00007033), (0x0000707f, 0x0000000f), (0x0000707f, 0x0000100f), (0xffffffff, 0x00000073), (0xffffffff, 0x00100073), (0x0000707f, 0x00001073), (0x0000707f, 0x00002073), (0x0000707f, 0x00003073), (0x0000707f, 0x00005073), (0x0000707f, 0x00006073), (0x0000707f, 0x00007073), (0xffffffff, 0x30200073), (0xffffffff, 0x10500073), (0xfe00707f, 0x02000033), (0xfe00707f, 0x02001033), (0xfe00707f, 0x02002033), (0xfe00707f, 0x02003033), (0xfe00707f, 0x02004033), (0xfe00707f, 0x02005033), (0xfe00707f, 0x02006033), (0xfe00707f, 0x02007033)]
def hitP (w : BitVec 32) (p : BitVec 32 × BitVec 32) : Bool := decide (w &&& p.1 = p.2)
def hitI (w : BitVec 32) (k : Nat) : Bool := hitP w (pats.getD k (0, 1))
end Go.Ab
