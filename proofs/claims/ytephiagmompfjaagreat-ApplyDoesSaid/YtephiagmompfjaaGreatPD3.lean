/- The code of some functions, with what their types tell written out; each is what the translation gives (kernel_rfl). Printed by mk.py out of the translation. -/
import Derived.Test.YtephiagmompfjaaGreatPD2
import Derived.Test.YtephiagmompfjaaGreatProg
section
/- Words as instructions: what fields are, over numbers alone. -/
set_option linter.unusedSimpArgs false
set_option linter.unusedVariables false
namespace Go.Ab
/-- Bits of a word, from lo on, k of them. -/
def fld (w : BitVec 32) (lo k : Nat) : Nat := w.toNat / 2 ^ lo % 2 ^ k
theorem fld_lt (w : BitVec 32) (lo k : Nat) : fld w lo k < 2 ^ k := Nat.mod_lt _ (Nat.two_pow_pos k)
theorem shl_shr_fld (w : BitVec 32) (hi lo : Nat) (h1 : lo ≤ hi) (h2 : hi ≤ 31) : ((w <<< (31 - hi)) >>> (31 - hi + lo)).toNat = fld w lo (hi - lo + 1) := by
  rw [BitVec.toNat_ushiftRight, BitVec.toNat_shiftLeft, Nat.shiftRight_eq_div_pow, Nat.shiftLeft_eq]
  unfold fld
  have e1 : 2 ^ 32 = 2 ^ (hi + 1) * 2 ^ (31 - hi) := by rw [← Nat.pow_add]; congr 1; omega
  rw [e1, Nat.mul_mod_mul_right, Nat.pow_add 2 (31 - hi) lo, ← Nat.div_div_eq_div_mul, Nat.mul_div_cancel _ (Nat.two_pow_pos _)]
  have e2 : 2 ^ (hi + 1) = 2 ^ lo * 2 ^ (hi - lo + 1) := by rw [← Nat.pow_add]; congr 1; omega
  rw [e2, Nat.mod_mul_right_div_self]
theorem and_mod (w : BitVec 32) (k : Nat) (hk : k ≤ 32) : (w &&& BitVec.ofNat 32 (2 ^ k - 1)).toNat = w.toNat % 2 ^ k := by
  have h : 2 ^ k - 1 < 2 ^ 32 := by have := Nat.pow_le_pow_right (show 0 < 2 by omega) hk; have := Nat.two_pow_pos k; omega
  rw [BitVec.toNat_and, BitVec.toNat_ofNat, Nat.mod_eq_of_lt h, Nat.and_two_pow_sub_one_eq_mod]
theorem and_hi (x a b k : Nat) (hb : b < 2 ^ k) : x &&& (2 ^ k * a + b) = 2 ^ k * (x / 2 ^ k &&& a) + (x % 2 ^ k &&& b) := by
  apply Nat.eq_of_testBit_eq
  intro i
  have hb' : (x % 2 ^ k &&& b) < 2 ^ k := Nat.lt_of_le_of_lt Nat.and_le_right hb
  rw [Nat.testBit_and, Nat.testBit_two_pow_mul_add _ hb, Nat.testBit_two_pow_mul_add _ hb']
  split
  · rename_i hi
    rw [Nat.testBit_and, Nat.testBit_mod_two_pow]
    simp [hi]
  · rename_i hi
    rw [Nat.testBit_and, Nat.testBit_div_two_pow]
    congr 2; omega
/-- A word under the masks of the patterns. -/
theorem mask7 (w : BitVec 32) : (w &&& 0x7f#32).toNat = fld w 0 7 := by
  have := and_mod w 7 (by omega)
  simpa [fld] using this
theorem mask10 (w : BitVec 32) : (w &&& 0x707f#32).toNat = 4096 * fld w 12 3 + fld w 0 7 := by
  rw [BitVec.toNat_and]
  have h1 := and_hi w.toNat 7 127 12 (by decide)
  have h2 := Nat.and_two_pow_sub_one_eq_mod (w.toNat / 4096) 3
  have h3 := Nat.and_two_pow_sub_one_eq_mod (w.toNat % 4096) 7
  simp only [Nat.reducePow, Nat.reduceMul, Nat.reduceAdd, Nat.reduceSub] at h1 h2 h3
  rw [show (0x707f#32).toNat = 28799 from rfl, h1, h2, h3]
  unfold fld
  simp only [Nat.reducePow, Nat.div_one]
  omega
theorem mask17 (w : BitVec 32) : (w &&& 0xfe00707f#32).toNat = 33554432 * fld w 25 7 + (4096 * fld w 12 3 + fld w 0 7) := by
  rw [BitVec.toNat_and]
  have h0 := and_hi w.toNat 127 28799 25 (by decide)
  have h1 := and_hi (w.toNat % 33554432) 7 127 12 (by decide)
  have h2 := Nat.and_two_pow_sub_one_eq_mod (w.toNat % 33554432 / 4096) 3
  have h3 := Nat.and_two_pow_sub_one_eq_mod (w.toNat % 33554432 % 4096) 7
  have h4 := Nat.and_two_pow_sub_one_eq_mod (w.toNat / 33554432) 7
  simp only [Nat.reducePow, Nat.reduceMul, Nat.reduceAdd, Nat.reduceSub] at h0 h1 h2 h3 h4
  rw [show (0xfe00707f#32).toNat = 4261441663 from rfl, h0, h1, h2, h3, h4]
  unfold fld
  simp only [Nat.reducePow, Nat.div_one]
  omega
/-- An instruction. -/
structure IIn where
  op : Int
  rd : Int
  rs1 : Int
  rs2 : Int
  imm : BitVec 32
  csr : Int
  deriving DecidableEq
def IIn.zero : IIn := ⟨0, 0, 0, 0, 0, 0⟩
def IIn.cells (i : IIn) : List AV := [.int .i64 i.op, .int .i64 i.rd, .int .i64 i.rs1, .int .i64 i.rs2, .int .u32 (i.imm.toNat : Int), .int .i64 i.csr]
section
variable (i : IIn)
@[push_cast] theorem IIn.len : i.cells.length = 6 := rfl
@[push_cast] theorem IIn.c0 : i.cells[0]? = some (.int .i64 i.op) := rfl
@[push_cast] theorem IIn.c1 : i.cells[1]? = some (.int .i64 i.rd) := rfl
@[push_cast] theorem IIn.c2 : i.cells[2]? = some (.int .i64 i.rs1) := rfl
@[push_cast] theorem IIn.c3 : i.cells[3]? = some (.int .i64 i.rs2) := rfl
@[push_cast] theorem IIn.c4 : i.cells[4]? = some (.int .u32 (i.imm.toNat : Int)) := rfl
@[push_cast] theorem IIn.c5 : i.cells[5]? = some (.int .i64 i.csr) := rfl
@[push_cast] theorem IIn.pall : partOf i.cells 0 (some 6) = some (.agg i.cells) := rfl
end
/-- A word's kind; 0: it is no instruction. -/
def immK (f3 f7 : Nat) : Nat := if f3 = 0 then 19 else if f3 = 2 then 20 else if f3 = 3 then 21 else if f3 = 4 then 22 else if f3 = 6 then 23 else if f3 = 7 then 24 else if f3 = 1 then (if f7 = 0 then 25 else 0) else if f7 = 0 then 26 else if f7 = 32 then 27 else 0
def regK (f3 f7 : Nat) : Nat := if f7 = 0 then [28, 30, 31, 32, 33, 34, 36, 37].getD f3 0 else if f7 = 1 then 50 + f3 else if f7 = 32 then (if f3 = 0 then 29 else if f3 = 5 then 35 else 0) else 0
def sysK (f3 : Nat) (w : Nat) : Nat := if f3 = 1 ∨ f3 = 2 ∨ f3 = 3 then 41 + f3 else if f3 = 5 ∨ f3 = 6 ∨ f3 = 7 then 40 + f3 else if w = 0x73 then 40 else if w = 0x100073 then 41 else if w = 0x30200073 then 48 else if w = 0x10500073 then 49 else 0
def branchK (f3 : Nat) : Nat := if f3 = 0 ∨ f3 = 1 then 5 + f3 else if f3 = 4 ∨ f3 = 5 ∨ f3 = 6 ∨ f3 = 7 then 3 + f3 else 0
def loadK (f3 : Nat) : Nat := if f3 = 0 ∨ f3 = 1 ∨ f3 = 2 then 11 + f3 else if f3 = 4 ∨ f3 = 5 then 10 + f3 else 0
def kindK (w : BitVec 32) : Nat :=
  let o := fld w 0 7; let f3 := fld w 12 3; let f7 := fld w 25 7
  if o = 0x37 then 1 else if o = 0x17 then 2 else if o = 0x6f then 3 else if o = 0x67 then (if f3 = 0 then 4 else 0) else if o = 0x63 then branchK f3 else if o = 0x03 then loadK f3
  else if o = 0x23 then (if f3 < 3 then 16 + f3 else 0) else if o = 0x13 then immK f3 f7 else if o = 0x33 then regK f3 f7 else if o = 0x0f then (if f3 < 2 then 38 + f3 else 0) else if o = 0x73 then sysK f3 w.toNat else 0
/-- The patterns of all instructions, from 1 on. -/
def pats : List (BitVec 32 × BitVec 32) := [(0x0000007f, 0x00000037), (0x0000007f, 0x00000017), (0x0000007f, 0x0000006f), (0x0000707f, 0x00000067), (0x0000707f, 0x00000063), (0x0000707f, 0x00001063), (0x0000707f, 0x00004063), (0x0000707f, 0x00005063), (0x0000707f, 0x00006063), (0x0000707f, 0x00007063), (0x0000707f, 0x00000003), (0x0000707f, 0x00001003), (0x0000707f, 0x00002003), (0x0000707f, 0x00004003), (0x0000707f, 0x00005003), (0x0000707f, 0x00000023), (0x0000707f, 0x00001023), (0x0000707f, 0x00002023), (0x0000707f, 0x00000013), (0x0000707f, 0x00002013), (0x0000707f, 0x00003013), (0x0000707f, 0x00004013), (0x0000707f, 0x00006013), (0x0000707f, 0x00007013), (0xfe00707f, 0x00001013), (0xfe00707f, 0x00005013), (0xfe00707f, 0x40005013), (0xfe00707f, 0x00000033), (0xfe00707f, 0x40000033), (0xfe00707f, 0x00001033), (0xfe00707f, 0x00002033), (0xfe00707f, 0x00003033), (0xfe00707f, 0x00004033), (0xfe00707f, 0x00005033), (0xfe00707f, 0x40005033), (0xfe00707f, 0x00006033), (0xfe00707f, 0x00007033), (0x0000707f, 0x0000000f), (0x0000707f, 0x0000100f), (0xffffffff, 0x00000073), (0xffffffff, 0x00100073), (0x0000707f, 0x00001073), (0x0000707f, 0x00002073), (0x0000707f, 0x00003073), (0x0000707f, 0x00005073), (0x0000707f, 0x00006073), (0x0000707f, 0x00007073), (0xffffffff, 0x30200073), (0xffffffff, 0x10500073), (0xfe00707f, 0x02000033), (0xfe00707f, 0x02001033), (0xfe00707f, 0x02002033), (0xfe00707f, 0x02003033), (0xfe00707f, 0x02004033), (0xfe00707f, 0x02005033), (0xfe00707f, 0x02006033), (0xfe00707f, 0x02007033)]
def hitP (w : BitVec 32) (p : BitVec 32 × BitVec 32) : Bool := decide (w &&& p.1 = p.2)
def hitI (w : BitVec 32) (k : Nat) : Bool := hitP w (pats.getD k (0, 1))
end Go.Ab
end
section
/- Blocks: what they are, and when they are right, over numbers and lists alone. -/
set_option linter.unusedSimpArgs false
set_option linter.unusedVariables false
namespace Go.Ab
@[push_cast] theorem bindG_ite {c : Prop} [Decidable c] {v : AV} {K : AV → Prop} : bindG true (if c then some v else none) K = (c ∧ K v) := by
  by_cases hc : c <;> simp [bindG, hc]
attribute [push_cast] Bool.not_eq_true' Bool.not_eq_false'
structure IOp where
  code : Int
  a : Int
  b : Int
  imm : BitVec 32
  x : Int
  y : Int
  deriving DecidableEq
def IOp.zero : IOp := ⟨0, 0, 0, 0, 0, 0⟩
def IOp.cells (o : IOp) : List AV := [.int .i64 o.code, .int .i64 o.a, .int .i64 o.b, .int .u32 (o.imm.toNat : Int), .int .i64 o.x, .int .i64 o.y]
structure IVl where
  reg : Int
  val : Int
  deriving DecidableEq
def IVl.zero : IVl := ⟨0, 0⟩
def IVl.cells (v : IVl) : List AV := [.int .i64 v.reg, .int .i64 v.val]
abbrev vls (l : List IVl) : AV := .ro (l.flatMap IVl.cells) l.length
structure IEx where
  done : Int
  pc : BitVec 32
  to : Int
  why : Int
  map : List IVl
  deriving DecidableEq
def IEx.zero : IEx := ⟨0, 0, 0, 0, []⟩
def IEx.cells (e : IEx) : List AV := [.int .i64 e.done, .int .u32 (e.pc.toNat : Int), .int .i64 e.to, .int .i64 e.why, vls e.map]
abbrev ops (l : List IOp) : AV := .ro (l.flatMap IOp.cells) l.length
abbrev exs (l : List IEx) : AV := .ro (l.flatMap IEx.cells) l.length
structure IBk where
  pcs : List (BitVec 32)
  ops : List IOp
  exits : List IEx
  last : Int
  deriving DecidableEq
def IBk.cells (b : IBk) : List AV := [.ro (wds b.pcs) b.pcs.length, Ab.ops b.ops, exs b.exits, .int .i64 b.last]
abbrev bkP (b : IBk) : AV := .cp b.cells 0
@[push_cast] theorem IOp.len (o : IOp) : o.cells.length = 6 := rfl
@[push_cast] theorem IVl.len (v : IVl) : v.cells.length = 2 := rfl
@[push_cast] theorem IEx.len (e : IEx) : e.cells.length = 5 := rfl
@[push_cast] theorem IBk.len (b : IBk) : b.cells.length = 4 := rfl
section
variable (o : IOp) (v : IVl) (e : IEx) (b : IBk)
@[push_cast] theorem IOp.c0 : o.cells[0]? = some (.int .i64 o.code) := rfl
@[push_cast] theorem IOp.c1 : o.cells[1]? = some (.int .i64 o.a) := rfl
@[push_cast] theorem IOp.c2 : o.cells[2]? = some (.int .i64 o.b) := rfl
@[push_cast] theorem IOp.c3 : o.cells[3]? = some (.int .u32 (o.imm.toNat : Int)) := rfl
@[push_cast] theorem IOp.c4 : o.cells[4]? = some (.int .i64 o.x) := rfl
@[push_cast] theorem IOp.c5 : o.cells[5]? = some (.int .i64 o.y) := rfl
@[push_cast] theorem IOp.s1 (x : Int) : o.cells.set 1 (.int .i64 x) = IOp.cells { o with a := x } := rfl
@[push_cast] theorem IOp.s2 (x : Int) : o.cells.set 2 (.int .i64 x) = IOp.cells { o with b := x } := rfl
@[push_cast] theorem IOp.s4 (x : Int) : o.cells.set 4 (.int .i64 x) = IOp.cells { o with x := x } := rfl
@[push_cast] theorem IOp.s5 (x : Int) : o.cells.set 5 (.int .i64 x) = IOp.cells { o with y := x } := rfl
@[push_cast] theorem IVl.c0 : v.cells[0]? = some (.int .i64 v.reg) := rfl
@[push_cast] theorem IVl.c1 : v.cells[1]? = some (.int .i64 v.val) := rfl
@[push_cast] theorem IEx.c0 : e.cells[0]? = some (.int .i64 e.done) := rfl
@[push_cast] theorem IEx.c1 : e.cells[1]? = some (.int .u32 (e.pc.toNat : Int)) := rfl
@[push_cast] theorem IEx.c2 : e.cells[2]? = some (.int .i64 e.to) := rfl
@[push_cast] theorem IEx.c3 : e.cells[3]? = some (.int .i64 e.why) := rfl
@[push_cast] theorem IEx.c4 : e.cells[4]? = some (vls e.map) := rfl
@[push_cast] theorem IBk.c0 : b.cells[0]? = some (.ro (wds b.pcs) b.pcs.length) := rfl
@[push_cast] theorem IBk.c1 : b.cells[1]? = some (Ab.ops b.ops) := rfl
@[push_cast] theorem IBk.c2 : b.cells[2]? = some (exs b.exits) := rfl
@[push_cast] theorem IBk.c3 : b.cells[3]? = some (.int .i64 b.last) := rfl
@[push_cast] theorem IOp.sp (a b c d e f : AV) : splice [a, b, c, d, e, f] 0 o.cells = o.cells := rfl
@[push_cast] theorem IVl.sp (a b : AV) : splice [a, b] 0 v.cells = v.cells := rfl
@[push_cast] theorem IEx.sp (a b c d f : AV) : splice [a, b, c, d, f] 0 e.cells = e.cells := rfl
@[push_cast] theorem IBk.sp (a c d f : AV) : splice [a, c, d, f] 0 b.cells = b.cells := rfl
theorem IOp.zero_eq : [AV.int .i64 0, .int .i64 0, .int .i64 0, .int .u32 0, .int .i64 0, .int .i64 0] = IOp.zero.cells := rfl
@[push_cast] theorem IOp.pall : partOf o.cells 0 (some 6) = some (.agg o.cells) := rfl
@[push_cast] theorem IVl.pall : partOf v.cells 0 (some 2) = some (.agg v.cells) := rfl
@[push_cast] theorem IEx.pall : partOf e.cells 0 (some 5) = some (.agg e.cells) := rfl
@[push_cast] theorem IBk.pall : partOf b.cells 0 (some 4) = some (.agg b.cells) := rfl
end
theorem flat_getD {α : Type} (f : α → List AV) (n : Nat) (l : List α) (d : α) (hf : ∀ x, (f x).length = n) (k j : Nat) (hj : j < n) : (l.flatMap f)[k * n + j]? = if k < l.length then (f (l.getD k d))[j]? else none := by
  split
  · rename_i hk
    have h1 := flat_drop f n l (fun x _ => hf x) k (by omega)
    rw [List.drop_eq_getElem_cons hk, List.flatMap_cons] at h1
    rw [← List.getElem?_drop, h1, List.getElem?_append_left (by rw [hf]; exact hj)]
    simp [hk]
  · rename_i hk
    refine List.getElem?_eq_none ?_
    rw [flat_len f n l fun x _ => hf x]
    have := Nat.mul_le_mul_right n (Nat.not_lt.1 hk)
    omega
theorem flat_partD {α : Type} (f : α → List AV) (n : Nat) (l : List α) (d : α) (hf : ∀ x, (f x).length = n) (hn : 0 < n) (k : Nat) : partOf (l.flatMap f) (k * n) (some n) = if k < l.length then some (.agg (f (l.getD k d))) else none := by
  split
  · rename_i hk
    rw [flat_part f n l (fun x _ => hf x) k hk]
    simp [hk]
  · rename_i hk
    rw [partOf_some, if_neg]
    rw [flat_len f n l fun x _ => hf x]
    have := Nat.mul_le_mul_right n (Nat.not_lt.1 hk)
    omega
section
variable (l : List IOp) (m : List IVl) (es : List IEx) (k : Nat)
@[push_cast] theorem ops_0 : (l.flatMap IOp.cells)[k * 6]? = if k < l.length then some (.int .i64 (l.getD k IOp.zero).code) else none := by rw [← Nat.add_zero (k * 6), flat_getD _ _ _ IOp.zero IOp.len _ _ (by omega)]; rfl
@[push_cast] theorem ops_1 : (l.flatMap IOp.cells)[k * 6 + 1]? = if k < l.length then some (.int .i64 (l.getD k IOp.zero).a) else none := by rw [flat_getD _ _ _ IOp.zero IOp.len _ _ (by omega)]; rfl
@[push_cast] theorem ops_2 : (l.flatMap IOp.cells)[k * 6 + 2]? = if k < l.length then some (.int .i64 (l.getD k IOp.zero).b) else none := by rw [flat_getD _ _ _ IOp.zero IOp.len _ _ (by omega)]; rfl
@[push_cast] theorem ops_3 : (l.flatMap IOp.cells)[k * 6 + 3]? = if k < l.length then some (.int .u32 ((l.getD k IOp.zero).imm.toNat : Int)) else none := by rw [flat_getD _ _ _ IOp.zero IOp.len _ _ (by omega)]; rfl
@[push_cast] theorem ops_4 : (l.flatMap IOp.cells)[k * 6 + 4]? = if k < l.length then some (.int .i64 (l.getD k IOp.zero).x) else none := by rw [flat_getD _ _ _ IOp.zero IOp.len _ _ (by omega)]; rfl
@[push_cast] theorem ops_5 : (l.flatMap IOp.cells)[k * 6 + 5]? = if k < l.length then some (.int .i64 (l.getD k IOp.zero).y) else none := by rw [flat_getD _ _ _ IOp.zero IOp.len _ _ (by omega)]; rfl
@[push_cast] theorem ops_p : partOf (l.flatMap IOp.cells) (k * 6) (some 6) = if k < l.length then some (.agg (l.getD k IOp.zero).cells) else none := flat_partD _ _ _ IOp.zero IOp.len (by omega) _
@[push_cast] theorem vls_0 : (m.flatMap IVl.cells)[k * 2]? = if k < m.length then some (.int .i64 (m.getD k IVl.zero).reg) else none := by rw [← Nat.add_zero (k * 2), flat_getD _ _ _ IVl.zero IVl.len _ _ (by omega)]; rfl
@[push_cast] theorem vls_1 : (m.flatMap IVl.cells)[k * 2 + 1]? = if k < m.length then some (.int .i64 (m.getD k IVl.zero).val) else none := by rw [flat_getD _ _ _ IVl.zero IVl.len _ _ (by omega)]; rfl
@[push_cast] theorem vls_p : partOf (m.flatMap IVl.cells) (k * 2) (some 2) = if k < m.length then some (.agg (m.getD k IVl.zero).cells) else none := flat_partD _ _ _ IVl.zero IVl.len (by omega) _
@[push_cast] theorem exs_4 : (es.flatMap IEx.cells)[k * 5 + 4]? = if k < es.length then some (vls (es.getD k IEx.zero).map) else none := by rw [flat_getD _ _ _ IEx.zero IEx.len _ _ (by omega)]; rfl
@[push_cast] theorem exs_p : partOf (es.flatMap IEx.cells) (k * 5) (some 5) = if k < es.length then some (.agg (es.getD k IEx.zero).cells) else none := flat_partD _ _ _ IEx.zero IEx.len (by omega) _
end
theorem le_sub {r r' : AV} {h1 h2 h' : Heap} (hs : Sub h1 h') (hl : Le r h1 r' h2) : Le r h' r' h2 := by
  intro w v hw hr
  obtain ⟨k1, k2⟩ := hrep_less hw hs
  obtain ⟨x, y, z⟩ := hl w v k1 (hr.keep k2.keeps)
  exact ⟨x, y, fun b hb => z b (hs.none hb)⟩
/-- All numbers below one. -/
def allN (n : Nat) (p : Nat → Bool) : Bool := (List.range n).all p
theorem allN_true {n : Nat} {p : Nat → Bool} (h : ∀ i, i < n → p i = true) : allN n p = true := by
  simp only [allN, List.all_eq_true, List.mem_range]; exact h
theorem allN_false {n : Nat} {p : Nat → Bool} (k : Nat) (hk : k < n) (h : p k = false) : allN n p = false := by
  rw [← Bool.not_eq_true]
  intro h2
  simp only [allN, List.all_eq_true, List.mem_range] at h2
  rw [h2 k hk] at h; cases h
theorem allN_get {n : Nat} {p : Nat → Bool} (h : allN n p = true) (k : Nat) (hk : k < n) : p k = true := by
  simp only [allN, List.all_eq_true, List.mem_range] at h; exact h k hk
def IBk.op (b : IBk) (k : Nat) : IOp := b.ops.getD k IOp.zero
def IBk.ex (b : IBk) (k : Nat) : IEx := b.exits.getD k IEx.zero
def IEx.vl (e : IEx) (k : Nat) : IVl := e.map.getD k IVl.zero
/-- Is it a value's number, ahead of an operation? -/
def IBk.val (b : IBk) (n ahead : Int) : Bool := decide (0 ≤ n) && decide (n < ahead) && decide (n < b.ops.length) && decide (1 ≤ (b.op n.toNat).code) && decide ((b.op n.toNat).code ≤ 4)
/-- Is it an exit's number, whose values are ahead of an operation? -/
def IBk.exit (b : IBk) (n ahead : Int) : Bool := decide (0 ≤ n) && decide (n < b.exits.length) && (decide ((b.ex n.toNat).to = -1) || b.val (b.ex n.toNat).to ahead) && allN (b.ex n.toNat).map.length fun i => b.val ((b.ex n.toNat).vl i).val ahead
def loadsN (n : Int) : Int := if n = 11 ∨ n = 14 then 1 else if n = 12 ∨ n = 15 then 2 else if n = 13 then 4 else 0
def storesN (n : Int) : Int := if n = 16 then 1 else if n = 17 then 2 else if n = 18 then 4 else 0
def reckonsN (n : Int) : Bool := decide (19 ≤ n) && decide (n ≤ 37) || decide (50 ≤ n) && decide (n ≤ 57)
def kindN (o : IOp) : Bool :=
  let n : Int := o.imm.toNat
  if o.code = 1 then decide (1 ≤ n) && decide (n ≤ 31) else if o.code = 2 then true else if o.code = 3 then reckonsN n else if o.code = 4 then decide (0 < loadsN n) else if o.code = 5 then decide (0 < storesN n) else if o.code = 6 then decide (5 ≤ n) && decide (n ≤ 10) else false
def IBk.opR (b : IBk) (k : Nat) : Bool :=
  let o := b.op k
  let n : Int := o.imm.toNat
  if o.code = 1 then decide (1 ≤ n) && decide (n ≤ 31) && decide (o.x = 0) && decide (o.y = 0) && decide (o.a = 0) && decide (o.b = 0)
  else if o.code = 2 then decide (o.x = 0) && decide (o.y = 0) && decide (o.a = 0) && decide (o.b = 0)
  else if o.code = 3 then reckonsN n && decide (o.x = 0) && decide (o.y = 0) && b.val o.a k && b.val o.b k
  else if o.code = 4 then decide (0 < loadsN n) && decide (o.y = 0) && decide (o.b = 0) && b.val o.a k && b.exit o.x k
  else if o.code = 5 then decide (0 < storesN n) && b.val o.a k && b.val o.b k && b.exit o.x k && b.exit o.y k
  else if o.code = 6 then decide (5 ≤ n) && decide (n ≤ 10) && decide (o.y = 0) && b.val o.a k && b.val o.b k && b.exit o.x k
  else false
def IBk.leaves (b : IBk) (n : Nat) : Bool :=
  let e := b.ex n
  b.exit n b.ops.length && decide (0 ≤ e.done) && decide (e.done ≤ b.pcs.length) && decide (e.pc.toNat % 4 = 0) && decide (1 ≤ e.why) && decide (e.why ≤ 4) &&
    allN e.map.length fun i => decide (1 ≤ (e.vl i).reg) && decide ((e.vl i).reg ≤ 31) && (decide (i = 0) || decide ((e.vl (i - 1)).reg < (e.vl i).reg))
def pcR (l : List (BitVec 32)) (i : Nat) : Bool := decide ((l.getD i 0#32).toNat % 4 = 0)
def IBk.right (b : IBk) : Bool := allN b.ops.length b.opR && allN b.exits.length b.leaves && allN b.pcs.length (pcR b.pcs) && decide (0 < b.pcs.length) && b.exit b.last b.ops.length
def IBk.long (b : IBk) : Bool := decide (32 < b.pcs.length) || decide (512 < b.ops.length) || decide (128 < b.exits.length)
def IBk.check (b : IBk) : Int := if b.long then 3 else if b.right then 0 else 1
end Go.Ab
end
section
/- What lies in a box may be seen as data; a box may be. -/
set_option linter.unusedSimpArgs false
set_option linter.unusedVariables false
namespace Go.Ab
theorem Le.box {g : Heap} {b : Nat} {cells : List AV} {sp : Nat} (hb : g b = none) : Le (.ptr b 0) (upd g b ⟨cells, sp⟩) (.cp cells 0) g := by
  intro w v hw hr
  have hkc := rep_ptrC hr
  rw [rep_ptr hr]
  obtain ⟨l1, l2, l3, l4⟩ := hrep_new hb hw
  have l4 := l4 hkc
  refine ⟨l1, ?_, l2⟩
  exact .cp cells 0 b 0 (fun i => (w.cell? ⟨b, i, none⟩).getD undef) l3 (fun hd => hd hb) (fun i v hv => by
    obtain ⟨cv, e1, e2, _⟩ := l4 i v hv
    rw [Nat.zero_add, e1]; exact ⟨rfl, e2⟩) (fun i v hv => by
    obtain ⟨cv, e1, _, e3⟩ := l4 i v hv
    rw [e1]; exact e3)
theorem sub_upd {h g : Heap} {b : Nat} {X : Blk} (hb : h b = none) (hs : Sub h g) : Sub h (upd g b X) := by
  intro d y hd
  have : ¬ d = b := fun e => by rw [e, hb] at hd; cases hd
  rw [upd_at, if_neg this]
  exact hs d y hd
theorem le_tup1 {r r' : AV} {h h' : Heap} {k : IntKind} {x : Int} (hl : Le r h r' h') : Le (.tup [r, .int k x]) h (.tup [r', .int k x]) h' := by
  intro w v hw hr
  obtain ⟨cs, rfl, hl1, hr1⟩ := rep_tup hr
  obtain ⟨a, b, rfl⟩ : ∃ a b, cs = #[a, b] := by
    match cs, hl1 with
    | ⟨[a, b]⟩, _ => exact ⟨a, b, rfl⟩
  obtain ⟨x1, x2, x3⟩ := hl w a hw (hr1 0 r a rfl rfl)
  refine ⟨x1, .tup _ _ rfl fun i u c h1 h2 => ?_, x3⟩
  match i with
  | 0 => simp at h1 h2; subst h1; subst h2; exact x2
  | 1 =>
    simp at h1 h2; subst h1; subst h2
    have := hr1 1 (.int k x) b rfl rfl
    rw [rep_int this]; exact .int _ _
  | i + 2 => simp at h1
theorem le_trans {a b c : AV} {h h1 h2 : Heap} (x : Le a h b h1) (y : Le b h1 c h2) : Le a h c h2 := by
  intro w v hw hr
  obtain ⟨p, q, r⟩ := x w v hw hr
  obtain ⟨p', q', r'⟩ := y w v p q
  exact ⟨p', q', fun d hd => r' d (r d hd)⟩
theorem upd_dom {g : Heap} {b : Nat} {x y : Blk} : (upd g b x).dom = (upd g b y).dom := by
  funext c
  simp only [Heap.dom, upd]
  split <;> simp
/-- A row that lies in a box of one's own, seen as data there. -/
theorem Le.cell {sz n : Nat} {g h : Heap} {v u : AV} {cells cs cs' : List AV} {b sp : Nat} (ho : Own sz (upd g b ⟨cs, sp⟩) v cells n h) (hl : cs'.length = cs.length)
    (hc : ∀ i : Nat, cs'[i]? = cs[i]? ∨ (cs[i]? = some v ∧ cs'[i]? = some (AV.ro cells n))) : Le u h u (upd g b ⟨cs', sp⟩) := by
  intro w x hw hr
  obtain ⟨l1, l2⟩ := hrep_less hw ho.sub
  have hd : (upd g b ⟨cs', sp⟩).dom = (upd g b ⟨cs, sp⟩).dom := upd_dom
  refine ⟨?_, by rw [hd]; exact hr.keep l2.keeps, fun c hc => ?_⟩
  · intro c y hy
    by_cases e : c = b
    · subst e
      rw [upd_same] at hy
      cases hy
      rcases hw c ⟨cs, sp⟩ (ho.get (upd_same _ _ _)) with ⟨arr, t, e1, e2, e3⟩ | ⟨o, e1, e2, e3⟩
      rotate_left
      · cases e1
        have : cs' = [.raw o] := by
          match cs', hl with
          | [z], _ =>
            rcases hc 0 with q | ⟨q, _⟩
            · simpa using q
            · exfalso
              simp only [List.getElem?_cons_zero, Option.some.injEq] at q
              subst q
              cases ho
        subst this
        exact .inr ⟨o, rfl, e2, e3⟩
      refine .inl ⟨arr, t, e1, by rw [hl]; exact e2, fun i z hz => ?_⟩
      rcases hc i with q | ⟨q1, q2⟩
      · simp only at hz
        rw [q] at hz
        obtain ⟨cv, f1, f2, f3⟩ := e3 i z hz
        exact ⟨cv, f1, f2, by rw [hd]; exact f3.keep l2.keeps⟩
      · simp only at hz
        rw [q2] at hz
        cases hz
        obtain ⟨cv, f1, f2, f3⟩ := e3 i v q1
        refine ⟨cv, f1, f2, ?_⟩
        rw [hd]
        exact (ho.freeze w cv hw f3).2.1
    · rw [upd_ne e] at hy
      exact own_keep (l1 c y (by rw [upd_ne e]; exact hy)) rfl ⟨Nat.le_refl _, fun b _ hn => ⟨by rw [hd]; exact hn, rfl⟩, fun _ h => h⟩
  · have := ho.sub.none hc
    simp only [upd] at this ⊢
    split at this
    · cases this
    · rename_i e; rw [if_neg e]; exact this
theorem wkQ.cell {sz n : Nat} {g h : Heap} {v u : AV} {cells cs cs' : List AV} {b sp : Nat} {K : AV → Heap → Prop} (ho : Own sz (upd g b ⟨cs, sp⟩) v cells n h) (hl : cs'.length = cs.length)
    (hc : ∀ i : Nat, cs'[i]? = cs[i]? ∨ (cs[i]? = some v ∧ cs'[i]? = some (AV.ro cells n))) (hq : K u (upd g b ⟨cs', sp⟩)) : wkQ K u h := ⟨_, _, Le.cell ho hl hc, hq⟩
end Go.Ab
end
section
/- A region of open order by what holds behind each of its operations, whichever were ahead. -/
set_option linter.unusedSimpArgs false
set_option linter.unusedVariables false
namespace Go.Ab
def altB : OT → Bool → Bool
  | .nil, _ => true
  | _, b => b
/-- A tree's ways, held against what must have been ahead of each. -/
def wlk (es R R2 : List Nat) (D : Nat → List Nat) : OT → List Nat → Bool
  | .nil, pre => es.all pre.contains
  | .r i t, pre => es.contains i && !pre.contains i && (D i).all pre.contains && wlk es R R2 D t (i :: pre)
  | .e i fl t alt, pre => (es.contains i && !pre.contains i && (D i).all pre.contains && (fl.all fun j => R.contains j || (R2.contains j && pre.contains j)) && wlk es R R2 D t (i :: pre)) && altB alt (wlk es R R2 D alt pre)
theorem dwpT_inv {P : Program} {G : Glo} {ops : List AOp} {es R R2 : List Nat} {D : Nat → List Nat} {I : List Nat → Env → Heap → Prop} {Q : Env → Heap → Prop}
    (hs : ∀ i ∈ es, ∀ (fl pre : List Nat) (ρ : Env) (h : Heap) (K : Env → Heap → Prop), (∀ j ∈ fl, j ∈ R ∨ (j ∈ R2 ∧ j ∈ pre)) → i ∉ pre → (∀ j ∈ D i, j ∈ pre) → I pre ρ h → (∀ ρ' h', I (i :: pre) ρ' h' → K ρ' h') → bindO ops[i]? fun o => dst P G o ρ h (stbC G ops fl ρ) K)
    (hq : ∀ pre ρ h, (∀ j ∈ es, j ∈ pre) → I pre ρ h → Q ρ h) : ∀ (t : OT) (pre : List Nat) (ρ : Env) (h : Heap), wlk es R R2 D t pre = true → I pre ρ h → dwpT P G ops Q t ρ h := by
  intro t
  induction t with
  | nil =>
    intro pre ρ h hw hI
    simp only [wlk, List.all_eq_true, List.contains_iff_mem] at hw
    rw [dwpT_nil]
    exact hq pre ρ h hw hI
  | r i t ih =>
    intro pre ρ h hw hI
    simp only [wlk, Bool.and_eq_true, Bool.not_eq_true', List.all_eq_true, List.contains_iff_mem] at hw
    obtain ⟨⟨⟨w1, w2⟩, w3⟩, w4⟩ := hw
    have w2' : i ∉ pre := fun q => by rw [← List.contains_iff_mem, w2] at q; cases q
    have := hs i w1 [] pre ρ h (dwpT P G ops Q t) (fun j q => by cases q) w2' w3 hI fun ρ' h' q => ih _ ρ' h' w4 q
    rw [dwpT_r]
    exact this
  | e i fl t alt ih1 ih2 =>
    intro pre ρ h hw hI
    simp only [wlk, Bool.and_eq_true, Bool.not_eq_true', List.all_eq_true, List.contains_iff_mem, Bool.or_eq_true] at hw
    obtain ⟨⟨⟨⟨⟨w1, w2⟩, w3⟩, w5⟩, w4⟩, w6⟩ := hw
    have w2' : i ∉ pre := fun q => by rw [← List.contains_iff_mem, w2] at q; cases q
    have := hs i w1 fl pre ρ h (dwpT P G ops Q t) w5 w2' w3 hI fun ρ' h' q => ih1 _ ρ' h' w4 q
    rw [dwpT_e]
    refine ⟨this, ?_⟩
    cases alt with
    | nil => rw [altC_nil]; trivial
    | r j u => exact ih2 pre ρ h w6 hI
    | e j fl' u a' => rw [altC_e]; exact ih2 pre ρ h w6 hI
def opsOf : ACode → List AOp
  | .dregt ops _ _ => ops
  | _ => []
def edgOf : ACode → List (List Nat)
  | .dregt _ es _ => es
  | _ => []
theorem stb_of {G : Glo} {ops : List AOp} {ρ : Env} {h : Heap} {S : List Nat} (hp : ∀ j ∈ S, bindO ops[j]? fun o => pend G o ρ h) : ∀ fl : List Nat, (∀ j ∈ fl, j ∈ S) → stb G ops ρ h fl := by
  intro fl
  induction fl with
  | nil => intro _; trivial
  | cons j r ih =>
    intro hf
    refine ⟨?_, ih fun i hi => hf i (by simp [hi])⟩
    have := hp j (hf j (by simp))
    revert this
    unfold bindO
    cases ops[j]? <;> exact id
end Go.Ab
end
section
/- The code of some functions, with what their types tell written out; each is what the translation gives (kernel_rfl). Printed by mk.py out of the translation. -/
namespace Go.Ab
open Go.Proofs Go.Sc
set_option maxRecDepth 100000
/-- mimesis/mimesislaw25.ApplyDoes -/
abbrev C3_0 := Ro [Br 3 t0,Br 4 t1,As 6 kF]
abbrev C3_1 := Ro [Ld 15 (some 50) t3,Ld 16 (some 4) t4,Ca 17 5 [t15,t16],Un 18 .not t17]
abbrev C3_2 := Ro [Ca 19 6 [],As 6 t19]
abbrev C3_3 := Sq [6] C3_2 .ret
abbrev C3_4 := Cd t18 C3_3 .skip
abbrev C3_5 := Sq [2,3,4,18] C3_1 C3_4
abbrev C3_6 := Ro [Ld 20 (some 50) t3,Ca 21 7 [t20],As 7 t21]
abbrev C3_7 := Ro [Ld 22 (some 50) t3,Ca 23 8 [t22],Al 8 [z4,z4,z4,z4,z4,z4,z4,z4,z4,z4,z4,z4,z4,z4,z4,z4,z4,z4,z4,z4,z4,z4,z4,z4,z4,z4,z4,z4,z4,z4,z4,z4,z4,z4,z4,z4,z4,z4,z4,z4,z8,z8,z8,z8,.nils,.nils,zi,.nils,zb,.nils,z8,z8,zb,zb,z4,.nils],Sxn 56 t8 t23]
abbrev C3_8 := Ro [Ld 24 (some 4) t4,Ca 25 9 [t24],As 9 t25]
abbrev C3_9 := Ro [Mv 26 t7,Mv 27 t9,Mv 28 t2,Ca 29 10 [t26,t27,t28],As 10 t29]
abbrev C3_10 := Ro [Mv 31 t7,Mv 32 t9,Mv 33 t2,Ca 34 11 [t31,t32,t33],Mv 30 t34,Ex 35 0 t30,Ex 36 1 t30,Al 11 [z4,z4,z4,z4,z4,z4,z4,z4,z4,z4,z4,z4,z4,z4,z4,z4,z4,z4,z4,z4,z4,z4,z4,z4,z4,z4,z4,z4,z4,z4,z4,z4,z4,zi,zi,zi],Sxn 36 t11 t35,As 12 t36]
abbrev C3_11 := Ro [Mv 37 t7,Ca 38 13 [t37],Ca 39 12 [t38],Al 13 [z4,z4,z4,z4,z4,z4,z4,z4,z4,z4,z4,z4,z4,z4,z4,z4,z4,z4,z4,z4,z4,z4,z4,z4,z4,z4,z4,z4,z4,z4,z4,z4,z4,z4,z4,z4,z4,z4,z4,z4,z8,z8,z8,z8,.nils,.nils,zi,.nils,zb,.nils,z8,z8,zb,zb,z4,.nils],Sxn 56 t13 t39]
abbrev C3_12 := Ro [Ld 40 (some 4) t4,Ca 41 14 [t40],As 14 t41]
abbrev C3_13 := Ro [Mv 42 t14,Bn 43 .neq t42 (kI 0)]
abbrev C3_14 := Ro [Mv 44 t10,Un 45 .not t44,Mv 46 t45,Mvt 47 46 t12,Mvt 48 46 t14,Bnt 49 46 .eql t47 t48,Pk 50 t46 t49 kF,Mv 51 t50,Ldt 52 51 (some 36) t11,⟨(some 53),(some (51,true)),.r (.bld [z4,z4,z4,z4,z4,z4,z4,z4,z4,z4,z4,z4,z4,z4,z4,z4,z4,z4,z4,z4,z4,z4,z4,z4,z4,z4,z4,z4,z4,z4,z4,z4,z4,zi,zi,zi] [])⟩,⟨(some 54),(some (51,true)),.r (.eqa false [.i,.i,.i,.i,.i,.i,.i,.i,.i,.i,.i,.i,.i,.i,.i,.i,.i,.i,.i,.i,.i,.i,.i,.i,.i,.i,.i,.i,.i,.i,.i,.i,.i,.i,.i,.i] t52 t53)⟩,Pk 55 t51 t54 kF,Mv 56 t55,Ldt 57 56 (some 56) t13,Ldt 58 56 (some 56) t8,Cat 59 56 15 [t57,t58],Pk 60 t56 t59 kF,Mv 61 t60,Cat 62 61 6 [],Pk 63 t61 t62 kF,As 6 t63]
abbrev C3_15 := Sq [6] C3_14 .ret
abbrev C3_16 := Cd t43 C3_15 .skip
abbrev C3_17 := Sq [2,4,8,10,11,12,13,14,43] C3_13 C3_16
abbrev C3_18 := Sq [2,4,8,10,11,12,13,14] C3_12 C3_17
abbrev C3_19 := Ro [Ld 64 (some 56) t8,Ld 65 (some 4) t4,Mv 66 t2,Ca 67 16 [t64,t65,t66],Un 68 .not t67]
abbrev C3_20 := Ro [Mv 69 t10,Un 70 .not t69,Mv 71 t70,Mvt 72 71 t12,Bnt 73 71 .eql t72 (kI 4),Pk 74 t71 t73 kF,Mv 75 t74,Ldt 76 75 (some 36) t11,⟨(some 77),(some (75,true)),.r (.bld [z4,z4,z4,z4,z4,z4,z4,z4,z4,z4,z4,z4,z4,z4,z4,z4,z4,z4,z4,z4,z4,z4,z4,z4,z4,z4,z4,z4,z4,z4,z4,z4,z4,zi,zi,zi] [])⟩,⟨(some 78),(some (75,true)),.r (.eqa false [.i,.i,.i,.i,.i,.i,.i,.i,.i,.i,.i,.i,.i,.i,.i,.i,.i,.i,.i,.i,.i,.i,.i,.i,.i,.i,.i,.i,.i,.i,.i,.i,.i,.i,.i,.i] t76 t77)⟩,Pk 79 t75 t78 kF,Mv 80 t79,Ldt 81 80 (some 56) t13,Ldt 82 80 (some 56) t8,Cat 83 80 15 [t81,t82],Pk 84 t80 t83 kF,Mv 85 t84,Cat 86 85 6 [],Pk 87 t85 t86 kF,As 6 t87]
abbrev C3_21 := Sq [6] C3_20 .ret
abbrev C3_22 := Cd t68 C3_21 .skip
abbrev C3_23 := Sq [4,8,10,11,12,13,68] C3_19 C3_22
abbrev C3_24 := Dr [Mv 88 t10,Mv 89 t88,Mvt 90 89 t12,Bnt 91 89 .eql t90 (kI 0),Pk 92 t89 t91 kF,Mv 93 t92,Ldt 94 93 (some 56) t13,Ldt 95 93 (some 56) t8,Ldt 96 93 (some 4) t4,Cat 97 93 17 [t95,t96],Cat 98 93 15 [t94,t97],Pk 99 t93 t98 kF,Mv 100 t99,Fat 101 100 32 t11,Ldt 102 100 none t101,Fat 103 100 0 t13,Ldt 104 100 none t103,Bnt 105 100 .eql t102 t104,Pk 106 t100 t105 kF,Mv 107 t106,Cat 108 107 6 [],Pk 109 t107 t108 kF,As 6 t109] [[],[0],[1],[2,1],[1,3],[4,1],[5],[5],[5],[7,8,5,5],[6,9,9,5],[5,10],[11,10],[12],[13,12],[12],[15,12],[14,16,12],[12,17],[18,12],[19,19],[19,20],[21,20,0,1,2,3,4,5,6,7,8,9,10,11,12,13,14,15,16,17,18,19,20,21]] [(0,[]),(1,[]),(2,[]),(3,[]),(4,[]),(5,[]),(6,[]),(7,[]),(8,[]),(9,[6]),(10,[]),(11,[]),(12,[]),(13,[]),(14,[]),(15,[]),(16,[]),(17,[]),(18,[]),(19,[]),(20,[]),(21,[]),(22,[])]
abbrev C3_25 := Sq [6] C3_24 .ret
abbrev C3_26 := Sq [4,8,10,11,12,13] C3_23 C3_25
abbrev C3_27 := Sq [2,4,8,10,11,12,13] C3_18 C3_26
abbrev C3_28 : ACode := .fz 13 C3_27
abbrev C3_29 := Sq [2,4,8,10,11,12,13] C3_11 C3_28
abbrev C3_30 : ACode := .fz 11 C3_29
abbrev C3_31 := Sq [2,4,7,8,10,11,12] C3_10 C3_30
abbrev C3_32 := Sq [2,4,7,8,9,10] C3_9 C3_31
abbrev C3_33 := Sq [2,4,7,8,9] C3_8 C3_32
abbrev C3_34 : ACode := .fz 8 C3_33
abbrev C3_35 := Sq [2,4,7,8] C3_7 C3_34
abbrev C3_36 := Sq [2,3,4,7] C3_6 C3_35
abbrev C3_37 := Sq [2,3,4] C3_5 C3_36
abbrev C3_38 := Sq [2,3,4] C3_0 C3_37
abbrev C3 := C3_38
abbrev C3r : List RV := [.t 6]
theorem C3ok : Okf Tryz.prog 3 Tryz.f3 C3 C3r := ⟨Tryz.func3, by kernel_rfl, by kernel_rfl, by kernel_rfl⟩

/-- mimesis/mimesislaw25.ApplyKeeps -/
abbrev C4_0 := Ro [⟨(some 2),none,.e (.box t0)⟩,Br 3 t1,As 4 kF]
abbrev C4_1 := Ro [Ld 8 (some 50) t2,Ld 9 (some 4) t3,Ca 10 5 [t8,t9],Un 11 .not t10,Mv 12 t11,Faf 13 12 0 t3,Ldf 14 12 none t13,Lnf 15 12 t14,Bnf 16 12 .eql t15 (kI 0),Pk 17 t12 kT t16]
abbrev C4_2 := Ro [Ca 18 6 [],As 4 t18]
abbrev C4_3 := Sq [4] C4_2 .ret
abbrev C4_4 := Cd t17 C4_3 .skip
abbrev C4_5 := Sq [2,3,17] C4_1 C4_4
abbrev C4_6 := Ro [Fa 19 0 t3,Ld 20 none t19,Ix 21 1 t20 (kI 0),Ld 22 none t21,Fa 23 3 t2,Sxn 1 t23 t22]
abbrev C4_7 := Ro [Ld 24 (some 50) t2,Ca 25 18 [t24],Un 26 .not t25]
abbrev C4_8 := Ro [Ca 27 6 [],As 4 t27]
abbrev C4_9 := Sq [4] C4_8 .ret
abbrev C4_10 := Cd t26 C4_9 .skip
abbrev C4_11 := Sq [2,3,26] C4_7 C4_10
abbrev C4_12 := Ro [Ld 28 (some 50) t2,Ca 29 7 [t28],As 5 t29]
abbrev C4_13 := Ro [Mv 30 t5,Ca 31 13 [t30],Al 6 [z4,z4,z4,z4,z4,z4,z4,z4,z4,z4,z4,z4,z4,z4,z4,z4,z4,z4,z4,z4,z4,z4,z4,z4,z4,z4,z4,z4,z4,z4,z4,z4,z4,z4,z4,z4,z4,z4,z4,z4,z8,z8,z8,z8,.nils,.nils,.nils,zb,zi,z8,z8,zb,zb,z4,.nils],Sxn 55 t6 t31]
abbrev C4_14 := Ro [Mv 32 t5,Ld 33 (some 4) t3,Ca 34 9 [t33],Ca 35 11 [t32,t34,(kI 32)]]
abbrev C4_15 := Ro [Mv 36 t5,Ca 37 13 [t36],Al 7 [z4,z4,z4,z4,z4,z4,z4,z4,z4,z4,z4,z4,z4,z4,z4,z4,z4,z4,z4,z4,z4,z4,z4,z4,z4,z4,z4,z4,z4,z4,z4,z4,z4,z4,z4,z4,z4,z4,z4,z4,z8,z8,z8,z8,.nils,.nils,.nils,zb,zi,z8,z8,zb,zb,z4,.nils],Sxn 55 t7 t37]
abbrev C4_16 := Ro [Fa 38 0 t6,Ld 39 none t38,Fa 40 0 t7,Sxn 1 t40 t39]
abbrev C4_17 := Ro [Fa 41 1 t6,Ld 42 (some 32) t41,Fa 43 1 t7,Sxn 32 t43 t42]
abbrev C4_18 := Ro [Fa 44 44 t6,Ld 45 none t44,Fa 46 44 t7,Sxn 1 t46 t45]
abbrev C4_19 := Ro [Fa 47 42 t6,Ld 48 none t47,Fa 49 42 t7,Sxn 1 t49 t48]
abbrev C4_20 := Ro [Fa 50 43 t6,Ld 51 none t50,Fa 52 43 t7,Sxn 1 t52 t51]
abbrev C4_21 := Ro [Ld 53 (some 55) t7,Ld 54 (some 55) t6,Ca 55 19 [t53,t54],Mv 56 t55,Cat 57 56 6 [],Pk 58 t56 t57 kF,As 4 t58]
abbrev C4_22 := Sq [4] C4_21 .ret
abbrev C4_23 := Sq [6,7] C4_20 C4_22
abbrev C4_24 := Sq [6,7] C4_19 C4_23
abbrev C4_25 := Sq [6,7] C4_18 C4_24
abbrev C4_26 := Sq [6,7] C4_17 C4_25
abbrev C4_27 := Sq [6,7] C4_16 C4_26
abbrev C4_28 := Sq [6,7] C4_15 C4_27
abbrev C4_29 := Sq [5,6] C4_14 C4_28
abbrev C4_30 : ACode := .fz 6 C4_29
abbrev C4_31 := Sq [3,5,6] C4_13 C4_30
abbrev C4_32 := Sq [3,5] C4_12 C4_31
abbrev C4_33 := Sq [2,3] C4_11 C4_32
abbrev C4_34 := Sq [2,3] C4_6 C4_33
abbrev C4_35 := Sq [2,3] C4_5 C4_34
abbrev C4_36 := Sq [2,3] C4_0 C4_35
abbrev C4 := C4_36
abbrev C4r : List RV := [.t 4]
theorem C4ok : Okf Tryz.prog 4 Tryz.f4 C4 C4r := ⟨Tryz.func4, by kernel_rfl, by kernel_rfl, by kernel_rfl⟩

/-- mimesis/mimesislaw25.light -/
abbrev C5_0 := Ro [Br 2 t0,Br 3 t1,As 4 kF]
abbrev C5_1 := Ro [Fa 6 0 t2,Ld 7 none t6,Bn 8 .gtr t7 (kI 1024),Mv 9 t8,Faf 10 9 1 t2,Ldf 11 9 none t10,Lnf 12 9 t11,Bnf 13 9 .gtr t12 (kI 30),Pk 14 t9 kT t13,Mv 15 t14,Faf 16 15 2 t2,Ldf 17 15 none t16,Lnf 18 15 t17,Bnf 19 15 .gtr t18 (kI 256),Pk 20 t15 kT t19,Mv 21 t20,Ldf 22 21 (some 50) t2,Caf 23 21 18 [t22],Unf 24 21 .not t23,Pk 25 t21 kT t24,Mv 26 t25,Faf 27 26 0 t3,Ldf 28 26 none t27,Lnf 29 26 t28,Bnf 30 26 .gtr t29 (kI 100),Pk 31 t26 kT t30,Mv 32 t31,Faf 33 32 1 t3,Ldf 34 32 none t33,Lnf 35 32 t34,Bnf 36 32 .gtr t35 (kI 600),Pk 37 t32 kT t36,Mv 38 t37,Faf 39 38 2 t3,Ldf 40 38 none t39,Lnf 41 38 t40,Bnf 42 38 .gtr t41 (kI 200),Pk 43 t38 kT t42]
abbrev C5_2 := Ro [As 4 kF]
abbrev C5_3 := Sq [4] C5_2 .ret
abbrev C5_4 := Cd t43 C5_3 .skip
abbrev C5_5 := Sq [2,3,43] C5_1 C5_4
abbrev C5_6 := Ro [As 5 (kI 0)]
abbrev C5_7 := Ro [Mv 44 t5,Fa 45 2 t3,Ld 46 none t45,Ln 47 t46,Bn 48 .lss t44 t47]
abbrev C5_8 := Cd t48 .skip (.exit 0)
abbrev C5_9 := Sq [2,3,5,48] C5_7 C5_8
abbrev C5_10 := Ro [Fa 51 2 t3,Ld 52 none t51,Mv 53 t5,Ix 54 5 t52 t53,Fa 55 4 t54,Ld 56 none t55,Ln 57 t56,Bn 58 .gtr t57 (kI 100)]
abbrev C5_11 := Ro [As 4 kF]
abbrev C5_12 := Sq [4] C5_11 .ret
abbrev C5_13 := Cd t58 C5_12 .skip
abbrev C5_14 := Sq [2,3,5,58] C5_10 C5_13
abbrev C5_15 := Bk 1 C5_14
abbrev C5_16 := Ro [Mv 49 t5,Bn 50 .add t49 (kI 1),As 5 t50]
abbrev C5_17 := Sq [2,3,5] C5_15 C5_16
abbrev C5_18 := Sq [2,3,5] C5_9 C5_17
abbrev C5_19 : ACode := .loop C5_18
abbrev C5_20 := Bk 0 C5_19
abbrev C5_21 := Sq [2,3,5] C5_6 C5_20
abbrev C5_22 := Ro [Fa 59 48 t2,Ld 60 none t59,Bn 61 .lss t60 (kL 1152921504606846976),Mv 62 t61,Fat 63 62 45 t2,Fat 64 62 0 t63,Ldt 65 62 none t64,Bnt 66 62 .lss t65 (kL 1152921504606846976),Pk 67 t62 t66 kF,As 4 t67]
abbrev C5_23 := Sq [4] C5_22 .ret
abbrev C5_24 := Sq [2] C5_21 C5_23
abbrev C5_25 := Sq [2,3] C5_5 C5_24
abbrev C5_26 := Sq [2,3] C5_0 C5_25
abbrev C5 := C5_26
abbrev C5r : List RV := [.t 4]
theorem C5ok : Okf Tryz.prog 5 Tryz.f5 C5 C5r := ⟨Tryz.func5, by kernel_rfl, by kernel_rfl, by kernel_rfl⟩

/-- mimesis/mimesislaw25.awake -/
abbrev C6_0 := Ro [As 0 kF]
abbrev C6_1 := Ro [Ca 8 20 [(kI 64),kS,kS],Mv 7 t8,Ex 9 0 t7,Ex 10 1 t7,As 1 t9,As 2 t10]
abbrev C6_2 := Ro [⟨(some 11),none,.e (.bsr 1 [.int .u32 0] [(0,1,(kU 2147483648))])⟩,⟨(some 12),none,.r (.bld [zi,zi,zi,z4,zi,zi] [(0,1,(kI 1)),(3,1,(kU 1))])⟩,⟨(some 13),none,.r (.bld [zi,zi,zi,z4,zi,zi] [(0,1,(kI 2)),(3,1,(kU 4))])⟩,⟨(some 14),none,.r (.bld [zi,zi,zi,z4,zi,zi] [(0,1,(kI 3)),(3,1,(kU 28)),(2,1,(kI 1))])⟩,⟨(some 15),none,.e (.bsr 3 [zi,zi,zi,z4,zi,zi,zi,zi,zi,z4,zi,zi,zi,zi,zi,z4,zi,zi] [(0,6,t12),(6,6,t13),(12,6,t14)])⟩,⟨(some 16),none,.r (.bld [.int .i64 0,.int .i64 0] [(0,1,(kI 1)),(1,1,(kI 2))])⟩,⟨(some 17),none,.e (.bsr 1 [.int .i64 0,.int .i64 0] [(0,2,t16)])⟩,⟨(some 18),none,.r (.bld [zi,z4,zi,zi,.nils] [(0,1,(kI 1)),(1,1,(kU 2147483652)),(2,1,(kI (-1))),(3,1,(kI 4)),(4,1,t17)])⟩,⟨(some 19),none,.e (.bsr 1 [zi,z4,zi,zi,.nils] [(0,5,t18)])⟩,⟨(some 20),none,.r (.bld [.nils,.nils,.nils,zi] [(0,1,t11),(1,1,t15),(2,1,t19)])⟩,⟨(some 21),none,.e (.box t20)⟩,As 3 t21]
abbrev C6_3 := Ro [Mv 22 t1,Mv 23 t3,Ca 24 10 [t22,t23,(kI 1)],As 4 t24]
abbrev C6_4 := Ro [Mv 26 t1,Mv 27 t3,Ca 28 11 [t26,t27,(kI 1)],Mv 25 t28,Ex 29 0 t25,Ex 30 1 t25,Al 5 [z4,z4,z4,z4,z4,z4,z4,z4,z4,z4,z4,z4,z4,z4,z4,z4,z4,z4,z4,z4,z4,z4,z4,z4,z4,z4,z4,z4,z4,z4,z4,z4,z4,zi,zi,zi],Sxn 36 t5 t29,As 6 t30]
abbrev C6_5 := Ro [Mv 31 t2,Bn 32 .eql t31 (kI 0),Mv 33 t32,Mvt 34 33 t4,Pk 35 t33 t34 kF,Mv 36 t35,Mvt 37 36 t6,Bnt 38 36 .eql t37 (kI 0),Pk 39 t36 t38 kF,Mv 40 t39,Fat 41 40 33 t5,Ldt 42 40 none t41,Bnt 43 40 .eql t42 (kI 1),Pk 44 t40 t43 kF,Mv 45 t44,Mvt 46 45 t1,Cat 47 45 21 [t46,(kI 1)],Bnt 48 45 .eql t47 (kU 4),Pk 49 t45 t48 kF,Mv 50 t49,Mvt 51 50 t1,Nct 52 50 t51,Fat 53 50 42 t52,Ldt 54 50 none t53,Bnt 55 50 .eql t54 (kL 1),Pk 56 t50 t55 kF,As 0 t56]
abbrev C6_6 := Sq [0] C6_5 .ret
abbrev C6_7 : ACode := .fz 5 C6_6
abbrev C6_8 : ACode := .wk 5 C6_7
abbrev C6_9 := Sq [1,2,4,5,6] C6_4 C6_8
abbrev C6_10 := Sq [1,2,3,4] C6_3 C6_9
abbrev C6_11 : ACode := .wk 3 C6_10
abbrev C6_12 := Sq [1,2,3] C6_2 C6_11
abbrev C6_13 := Sq [1,2] C6_1 C6_12
abbrev C6_14 := Sq [] C6_0 C6_13
abbrev C6 := C6_14
abbrev C6r : List RV := [.t 0]
theorem C6ok : Okf Tryz.prog 6 Tryz.f6 C6 C6r := ⟨Tryz.func6, by kernel_rfl, by kernel_rfl, by kernel_rfl⟩

/-- mimesis/mimesislaw18.Begin -/
abbrev C7_0 := Ro [Br 1 t0,As 2 kP]
abbrev C7_1 := Dr [Fa 7 0 t1,Ld 8 none t7,Fa 9 1 t1,Ld 10 none t9,Ca 11 22 [t10],Fa 12 2 t1,Ld 13 none t12,Ca 14 20 [t8,t11,t13],Mv 6 t14,Ex 15 0 t6,Ex 16 1 t6,As 3 t15,As 4 t16] [[],[0],[],[2],[3],[],[5],[1,4,6,4],[7],[8],[8],[9,7,0,1,2,3,4,5,6,7,8,9],[10,11,0,1,2,3,4,5,6,7,8,9,10,11]] [(0,[]),(1,[]),(2,[]),(3,[]),(5,[]),(6,[]),(4,[0,1,5,6]),(7,[]),(8,[]),(9,[]),(10,[]),(11,[10]),(12,[])]
abbrev C7_2 := Ro [Mv 17 t4,Bn 18 .neq t17 (kI 0),Mv 19 t18,Mvf 20 19 t3,Epf 21 19 false t20 kP,Pk 22 t19 kT t21,Mv 23 t22,Mvf 24 23 t3,Caf 25 23 23 [t24],Caf 26 23 24 [t25],Epf 27 23 false t26 kP,Pk 28 t23 kT t27]
abbrev C7_3 := Ro [As 2 kP]
abbrev C7_4 := Sq [2] C7_3 .ret
abbrev C7_5 := Cd t28 C7_4 .skip
abbrev C7_6 := Sq [1,3,28] C7_2 C7_5
abbrev C7_7 := Ro [Mv 29 t3,Fa 30 3 t1,Ld 31 none t30,Nc 32 t29,Fa 33 0 t32,Sxn 1 t33 t31]
abbrev C7_8 := Ro [Mv 34 t3,Fa 35 4 t1,Ld 36 (some 32) t35,Nc 37 t34,Fa 38 1 t37,Sxn 32 t38 t36]
abbrev C7_9 := Ro [Mv 39 t3,Fa 40 36 t1,Ld 41 (some 7) t40,Fa 42 43 t1,Ld 43 none t42,Fa 44 44 t1,Ld 45 none t44,⟨(some 46),none,.r (.bld [z4,z4,z4,z4,z4,z4,z4,z8,z8] [(0,7,t41),(7,1,t43),(8,1,t45)])⟩,Nc 47 t39,Fa 48 33 t47,Sxn 9 t48 t46]
abbrev C7_10 := Ro [Mv 49 t3,Ca 50 23 [t49],Ca 51 24 [t50],As 5 t51]
abbrev C7_11 := Ro [Mv 52 t5,Fa 53 45 t1,Fa 54 0 t53,Ld 55 none t54,Nc 56 t52,Fa 57 0 t56,Sxn 1 t57 t55]
abbrev C7_12 := Ro [Mv 58 t5,Fa 59 45 t1,Fa 60 1 t59,Ld 61 none t60,Nc 62 t58,Fa 63 1 t62,Sxn 1 t63 t61]
abbrev C7_13 := Ro [Mv 64 t5,Fa 65 45 t1,Fa 66 2 t65,Ld 67 none t66,Nc 68 t64,Fa 69 2 t68,Sxn 1 t69 t67]
abbrev C7_14 := Ro [Mv 70 t3,Fa 71 48 t1,Ld 72 none t71,Nc 73 t70,Fa 74 42 t73,Sxn 1 t74 t72]
abbrev C7_15 := Ro [Mv 75 t3,Fa 76 49 t1,Ld 77 none t76,Nc 78 t75,Fa 79 43 t78,Sxn 1 t79 t77]
abbrev C7_16 := Ro [Mv 80 t3,As 2 t80]
abbrev C7_17 := Sq [2] C7_16 .ret
abbrev C7_18 := Sq [3] C7_15 C7_17
abbrev C7_19 := Sq [1,3] C7_14 C7_18
abbrev C7_20 := Sq [1,3] C7_13 C7_19
abbrev C7_21 := Sq [1,3,5] C7_12 C7_20
abbrev C7_22 := Sq [1,3,5] C7_11 C7_21
abbrev C7_23 := Sq [1,3,5] C7_10 C7_22
abbrev C7_24 := Sq [1,3] C7_9 C7_23
abbrev C7_25 := Sq [1,3] C7_8 C7_24
abbrev C7_26 := Sq [1,3] C7_7 C7_25
abbrev C7_27 := Sq [1,3] C7_6 C7_26
abbrev C7_28 := Sq [1,3,4] C7_1 C7_27
abbrev C7_29 := Sq [1] C7_0 C7_28
abbrev C7 := C7_29
abbrev C7r : List RV := [.t 2]
theorem C7ok : Okf Tryz.prog 7 Tryz.f7 C7 C7r := ⟨Tryz.func7, by kernel_rfl, by kernel_rfl, by kernel_rfl⟩

/-- mimesis/mimesisref18.Begin -/
abbrev C8_0 := Ro [Br 1 t0,Al 2 [z4,z4,z4,z4,z4,z4,z4,z4,z4,z4,z4,z4,z4,z4,z4,z4,z4,z4,z4,z4,z4,z4,z4,z4,z4,z4,z4,z4,z4,z4,z4,z4,z4,z4,z4,z4,z4,z4,z4,z4,z8,z8,z8,z8,.nils,.nils,zi,.nils,zb,.nils,z8,z8,zb,zb,z4,.nils]]
abbrev C8_1 := Ro [Fa 4 0 t1,Ld 5 none t4,Fa 6 1 t1,Ld 7 none t6,Fa 8 2 t1,Ld 9 none t8,Ca 10 25 [t5,t7,t9],Al 3 [z4,z4,z4,z4,z4,z4,z4,z4,z4,z4,z4,z4,z4,z4,z4,z4,z4,z4,z4,z4,z4,z4,z4,z4,z4,z4,z4,z4,z4,z4,z4,z4,z4,z4,z4,z4,z4,z4,z4,z4,z8,z8,z8,z8,.nils,.nils,zi,.nils,zb,.nils,z8,z8,zb,zb,z4,.nils],Sxn 56 t3 t10]
abbrev C8_2 := Ro [Fa 11 3 t1,Ld 12 none t11,Fa 13 0 t3,Sxn 1 t13 t12]
abbrev C8_3 := Ro [Fa 14 4 t1,Ld 15 (some 32) t14,Fa 16 1 t3,Sxn 32 t16 t15]
abbrev C8_4 := Ro [Fa 17 36 t1,Ld 18 (some 7) t17,Fa 19 43 t1,Ld 20 none t19,Fa 21 44 t1,Ld 22 none t21,⟨(some 23),none,.r (.bld [z4,z4,z4,z4,z4,z4,z4,z8,z8] [(0,7,t18),(7,1,t20),(8,1,t22)])⟩,Fa 24 33 t3,Sxn 9 t24 t23]
abbrev C8_5 := Ro [Fa 25 45 t1,Ld 26 (some 3) t25,Fa 27 44 t3,Fa 28 6 t27,Sxn 3 t28 t26]
abbrev C8_6 := Ro [Fa 29 48 t1,Ld 30 none t29,Fa 31 42 t3,Sxn 1 t31 t30]
abbrev C8_7 := Ro [Fa 32 49 t1,Ld 33 none t32,Fa 34 43 t3,Sxn 1 t34 t33]
abbrev C8_8 := Ro [Ld 35 (some 56) t3,Sxn 56 t2 t35]
abbrev C8_9 := Sq [2] C8_8 .ret
abbrev C8_10 := Sq [2,3] C8_7 C8_9
abbrev C8_11 := Sq [1,2,3] C8_6 C8_10
abbrev C8_12 := Sq [1,2,3] C8_5 C8_11
abbrev C8_13 := Sq [1,2,3] C8_4 C8_12
abbrev C8_14 := Sq [1,2,3] C8_3 C8_13
abbrev C8_15 := Sq [1,2,3] C8_2 C8_14
abbrev C8_16 := Sq [1,2,3] C8_1 C8_15
abbrev C8_17 := Sq [1,2] C8_0 C8_16
abbrev C8 := C8_17
abbrev C8r : List RV := [.c 2 (some 56)]
theorem C8ok : Okf Tryz.prog 8 Tryz.f8 C8 C8r := ⟨Tryz.func8, by kernel_rfl, by kernel_rfl, by kernel_rfl⟩

/-- mimesis/mimesislaw23.Own -/
abbrev C9_0 := Ro [Br 1 t0,As 2 kP]
abbrev C9_1 := Ro [Fa 9 0 t1,Ld 10 none t9,Fa 11 3 t1,Ld 12 none t11,⟨(some 13),none,.r (.bld [.nils,.nils,.nils,zi] [(0,1,t10),(3,1,t12)])⟩,⟨(some 14),none,.e (.box t13)⟩,As 3 t14]
abbrev C9_2 := Ro [As 4 (kI 0)]
abbrev C9_3 := Ro [Mv 15 t4,Fa 16 1 t1,Ld 17 none t16,Ln 18 t17,Bn 19 .lss t15 t18]
abbrev C9_4 := Cd t19 .skip (.exit 0)
abbrev C9_5 := Sq [1,3,4,19] C9_3 C9_4
abbrev C9_6 := Dr [Mv 22 t3,Mv 23 t3,Nc 24 t23,Fa 25 1 t24,Ld 26 none t25,Fa 27 1 t1,Ld 28 none t27,Mv 29 t4,Ix 30 6 t28 t29,Ld 31 (some 6) t30,⟨(some 32),none,.e (.bsr 1 [zi,zi,zi,z4,zi,zi] [(0,6,t31)])⟩,Ap 33 6 48 t26 t32,Nc 34 t22,Fa 35 1 t34,Sxn 1 t35 t33] [[],[],[1],[2],[3],[],[5],[],[6,7],[8],[9],[4,10],[0,0,1,2,3,4,5,6,7,8,9,10,11],[12,0,1,2,3,4,5,6,7,8,9,10,11],[13,11,11,0,1,2,3,4,5,6,7,8,9,10,11]] [(0,[]),(1,[]),(2,[]),(3,[]),(4,[]),(5,[]),(6,[]),(7,[]),(8,[]),(9,[]),(10,[0,1,2,3,4]),(11,[0]),(12,[]),(13,[]),(14,[])]
abbrev C9_7 := Bk 1 C9_6
abbrev C9_8 := Ro [Mv 20 t4,Bn 21 .add t20 (kI 1),As 4 t21]
abbrev C9_9 := Sq [1,3,4] C9_7 C9_8
abbrev C9_10 := Sq [1,3,4] C9_5 C9_9
abbrev C9_11 : ACode := .loop C9_10
abbrev C9_12 := Bk 0 C9_11
abbrev C9_13 := Sq [1,3,4] C9_2 C9_12
abbrev C9_14 := Ro [As 5 (kI 0)]
abbrev C9_15 := Ro [Mv 36 t5,Fa 37 2 t1,Ld 38 none t37,Ln 39 t38,Bn 40 .lss t36 t39]
abbrev C9_16 := Cd t40 .skip (.exit 2)
abbrev C9_17 := Sq [1,3,5,40] C9_15 C9_16
abbrev C9_18 := Ro [Fa 43 2 t1,Ld 44 none t43,Mv 45 t5,Ix 46 5 t44 t45,Ld 47 (some 5) t46,Al 6 [zi,z4,zi,zi,.nils],Sxn 5 t6 t47]
abbrev C9_19 := Ro [Fa 48 0 t6,Ld 49 none t48,Fa 50 1 t6,Ld 51 none t50,Fa 52 2 t6,Ld 53 none t52,Fa 54 3 t6,Ld 55 none t54,⟨(some 56),none,.r (.bld [zi,z4,zi,zi,.nils] [(0,1,t49),(1,1,t51),(2,1,t53),(3,1,t55)])⟩,Al 7 [zi,z4,zi,zi,.nils],Sxn 5 t7 t56]
abbrev C9_20 := Ro [As 8 (kI 0)]
abbrev C9_21 := Ro [Mv 57 t8,Fa 58 4 t6,Ld 59 none t58,Ln 60 t59,Bn 61 .lss t57 t60]
abbrev C9_22 := Cd t61 .skip (.exit 4)
abbrev C9_23 := Sq [1,3,5,6,7,8,61] C9_21 C9_22
abbrev C9_24 := Dr [Fa 64 4 t7,Ld 65 none t64,Fa 66 4 t6,Ld 67 none t66,Mv 68 t8,Ix 69 2 t67 t68,Ld 70 (some 2) t69,⟨(some 71),none,.e (.bsr 1 [.int .i64 0,.int .i64 0] [(0,2,t70)])⟩,Ap 72 2 16 t65 t71,Fa 73 4 t7,Sxn 1 t73 t72] [[],[0],[],[2],[],[3,4],[5],[6],[1,7],[0,1,2,3,4,5,6,7,8],[9,8,8,0,1,2,3,4,5,6,7,8]] [(0,[]),(1,[]),(2,[]),(3,[]),(4,[]),(5,[]),(6,[]),(7,[0,1]),(8,[]),(9,[]),(10,[])]
abbrev C9_25 := Bk 5 C9_24
abbrev C9_26 := Ro [Mv 62 t8,Bn 63 .add t62 (kI 1),As 8 t63]
abbrev C9_27 := Sq [1,3,5,6,7,8] C9_25 C9_26
abbrev C9_28 := Sq [1,3,5,6,7,8] C9_23 C9_27
abbrev C9_29 : ACode := .loop C9_28
abbrev C9_30 := Bk 4 C9_29
abbrev C9_31 := Sq [1,3,5,6,7,8] C9_20 C9_30
abbrev C9_32 := Dr [Mv 74 t3,Mv 75 t3,Nc 76 t75,Fa 77 2 t76,Ld 78 none t77,Ld 79 (some 5) t7,⟨(some 80),none,.e (.bsr 1 [zi,z4,zi,zi,.nils] [(0,5,t79)])⟩,Ap 81 5 56 t78 t80,Nc 82 t74,Fa 83 2 t82,Sxn 1 t83 t81] [[],[],[1],[2],[3],[],[5],[4,6],[0,0,1,2,3,4,5,6,7],[8,0,1,2,3,4,5,6,7],[9,7,7,0,1,2,3,4,5,6,7]] [(0,[]),(1,[]),(2,[]),(3,[]),(4,[]),(5,[]),(6,[0,1,2,3,4]),(7,[0]),(8,[]),(9,[]),(10,[])]
abbrev C9_33 : ACode := .wk 7 C9_32
abbrev C9_34 := Sq [1,3,5,7] C9_31 C9_33
abbrev C9_35 := Sq [1,3,5,6,7] C9_19 C9_34
abbrev C9_36 : ACode := .fz 6 C9_35
abbrev C9_37 := Sq [1,3,5,6] C9_18 C9_36
abbrev C9_38 := Bk 3 C9_37
abbrev C9_39 := Ro [Mv 41 t5,Bn 42 .add t41 (kI 1),As 5 t42]
abbrev C9_40 := Sq [1,3,5] C9_38 C9_39
abbrev C9_41 := Sq [1,3,5] C9_17 C9_40
abbrev C9_42 : ACode := .loop C9_41
abbrev C9_43 := Bk 2 C9_42
abbrev C9_44 := Sq [1,3,5] C9_14 C9_43
abbrev C9_45 := Ro [Mv 84 t3,As 2 t84]
abbrev C9_46 := Sq [2] C9_45 .ret
abbrev C9_47 : ACode := .wk 3 C9_46
abbrev C9_48 := Sq [3] C9_44 C9_47
abbrev C9_49 : ACode := .wk 3 C9_48
abbrev C9_50 := Sq [1,3] C9_13 C9_49
abbrev C9_51 := Sq [1,3] C9_1 C9_50
abbrev C9_52 := Sq [1] C9_0 C9_51
abbrev C9 := C9_52
abbrev C9r : List RV := [.t 2]
theorem C9ok : Okf Tryz.prog 9 Tryz.f9 C9 C9r := ⟨Tryz.func9, by kernel_rfl, by kernel_rfl, by kernel_rfl⟩

/-- mimesis/apply.May -/
abbrev C10_0 := Ro [As 6 kF]
abbrev C10_1 := Ro [Mv 7 t0,Mv 8 t1,Mv 9 t2,Ca 10 26 [t7,t8,t9],Bn 11 .eql t10 (kI 0),As 6 t11]
abbrev C10_2 := Sq [6] C10_1 .ret
abbrev C10_3 := Sq [0,1,2] C10_0 C10_2
abbrev C10 := C10_3
abbrev C10r : List RV := [.t 6]
theorem C10ok : Okf Tryz.prog 10 Tryz.f10 C10 C10r := ⟨Tryz.func10, by kernel_rfl, by kernel_rfl, by kernel_rfl⟩

/-- mimesis/apply.Do -/
abbrev C11_0 := Ro [Al 6 [z4,z4,z4,z4,z4,z4,z4,z4,z4,z4,z4,z4,z4,z4,z4,z4,z4,z4,z4,z4,z4,z4,z4,z4,z4,z4,z4,z4,z4,z4,z4,z4,z4,zi,zi,zi],As 7 (kI 0)]
abbrev C11_1 := Ro [Mv 11 t0,Mv 12 t1,Mv 13 t2,Ca 14 26 [t11,t12,t13],As 8 t14]
abbrev C11_2 := Ro [Mv 15 t8,Bn 16 .neq t15 (kI 0)]
abbrev C11_3 := Ro [⟨(some 17),none,.r (.bld [z4,z4,z4,z4,z4,z4,z4,z4,z4,z4,z4,z4,z4,z4,z4,z4,z4,z4,z4,z4,z4,z4,z4,z4,z4,z4,z4,z4,z4,z4,z4,z4,z4,zi,zi,zi] [])⟩,Mv 18 t8,Sxn 36 t6 t17,As 7 t18]
abbrev C11_4 := Sq [6,7] C11_3 .ret
abbrev C11_5 := Cd t16 C11_4 .skip
abbrev C11_6 := Sq [0,1,6,8,16] C11_2 C11_5
abbrev C11_7 := Sq [0,1,6,8] C11_1 C11_6
abbrev C11_8 : ACode := .dregt [Mv 20 t1,Mv 21 t0,Nc 22 t21,Fa 23 1 t22,Ld 24 (some 32) t23,Mv 25 t0,Ca 26 23 [t25],Ca 27 28 [t26],Ca 28 27 [t20,t24,t27],Mv 19 t28,Ex 29 0 t19,Ex 30 1 t19,Al 9 [z4,z4,z4,z4,z4,z4,z4,z4,z4,z4,z4,z4,z4,z4,z4,z4,z4,z4,z4,z4,z4,z4,z4,z4,z4,z4,z4,z4,z4,z4,z4,z4,z4,zi,zi,zi],Sxn 36 t9 t29,As 10 t30] [[],[],[1],[2],[3],[],[5],[6,6],[0,4,7,7],[8],[9],[9],[],[12,10,8,0,1,2,3,4,5,6,7,8,9,10,12],[11,13,0,1,2,3,4,5,6,7,8,9,10,11,12,13]] (.r 0 (.r 1 (.r 2 (.r 3 (.r 4 (.r 5 (.e 6 [0,1,2,3,4] (.e 7 [0,1,2,3,4] (.e 8 [] (.r 9 (.r 10 (.r 11 (.e 12 [0,1,2,3,4,5,9,10,11] (.e 13 [11] (.e 14 [] .nil .nil) .nil) .nil)))) (.e 12 [0,1,2,3,4,5] (.e 8 [] (.r 9 (.r 10 (.r 11 (.e 13 [11] (.e 14 [] .nil .nil) .nil)))) .nil) .nil)) (.e 12 [0,1,2,3,4,5] (.e 7 [0,1,2,3,4] (.e 8 [] (.r 9 (.r 10 (.r 11 (.e 13 [11] (.e 14 [] .nil .nil) .nil)))) .nil) .nil) .nil)) (.e 12 [0,1,2,3,4,5] (.e 6 [0,1,2,3,4] (.e 7 [0,1,2,3,4] (.e 8 [] (.r 9 (.r 10 (.r 11 (.e 13 [11] (.e 14 [] .nil .nil) .nil)))) .nil) .nil) .nil) .nil))))))))
abbrev C11_9 := Ro [Mv 31 t10,Bn 32 .neq t31 (kI 0)]
abbrev C11_10 := Ro [⟨(some 33),none,.r (.bld [z4,z4,z4,z4,z4,z4,z4,z4,z4,z4,z4,z4,z4,z4,z4,z4,z4,z4,z4,z4,z4,z4,z4,z4,z4,z4,z4,z4,z4,z4,z4,z4,z4,zi,zi,zi] [])⟩,Mv 34 t10,Sxn 36 t6 t33,As 7 t34]
abbrev C11_11 := Sq [6,7] C11_10 .ret
abbrev C11_12 := Cd t32 C11_11 .skip
abbrev C11_13 := Sq [0,6,9,10,32] C11_9 C11_12
abbrev C11_14 := Dr [Mv 35 t0,Nc 36 t35,Fa 37 1 t36,⟨(some 38),none,.r (.sla 32 1 t37 (some (kI 1)) none)⟩,Fa 39 0 t9,⟨(some 40),none,.r (.sla 32 1 t39 (some (kI 1)) none)⟩,⟨(some 41),none,.e (.cpy 1 t38 t40)⟩] [[],[0],[1],[2],[],[4],[3,5]] [(0,[]),(1,[]),(2,[]),(3,[]),(4,[]),(5,[]),(6,[])]
abbrev C11_15 := Ro [Mv 42 t0,Fa 43 32 t9,Ld 44 none t43,Nc 45 t42,Fa 46 0 t45,Sxn 1 t46 t44]
abbrev C11_16 := Dr [Mv 47 t0,Nc 48 t47,Fa 49 42 t48,Ld 50 none t49,Fa 51 33 t9,Ld 52 none t51,Cv 53 .u64 t52,Bn 54 .add t50 t53,Nc 55 t47,Fa 56 42 t55,Sxn 1 t56 t54] [[],[0],[1],[2],[],[4],[5],[3,6],[0,0,1,2,3,4,5,6,7],[8,0,1,2,3,4,5,6,7],[9,7,0,1,2,3,4,5,6,7]] [(0,[]),(1,[]),(2,[]),(3,[]),(4,[]),(5,[]),(6,[]),(7,[]),(8,[]),(9,[]),(10,[])]
abbrev C11_17 := Dr [Mv 57 t0,Nc 58 t57,Fa 59 43 t58,Ld 60 none t59,Fa 61 33 t9,Ld 62 none t61,Cv 63 .u64 t62,Bn 64 .add t60 t63,Nc 65 t57,Fa 66 43 t65,Sxn 1 t66 t64] [[],[0],[1],[2],[],[4],[5],[3,6],[0,0,1,2,3,4,5,6,7],[8,0,1,2,3,4,5,6,7],[9,7,0,1,2,3,4,5,6,7]] [(0,[]),(1,[]),(2,[]),(3,[]),(4,[]),(5,[]),(6,[]),(7,[]),(8,[]),(9,[]),(10,[])]
abbrev C11_18 := Ro [Ld 67 (some 36) t9,Sxn 36 t6 t67,As 7 (kI 0)]
abbrev C11_19 := Sq [6,7] C11_18 .ret
abbrev C11_20 := Sq [6,9] C11_17 C11_19
abbrev C11_21 := Sq [0,6,9] C11_16 C11_20
abbrev C11_22 := Sq [0,6,9] C11_15 C11_21
abbrev C11_23 := Sq [0,6,9] C11_14 C11_22
abbrev C11_24 := Sq [0,6,9] C11_13 C11_23
abbrev C11_25 := Sq [0,6,9,10] C11_8 C11_24
abbrev C11_26 := Sq [0,1,6] C11_7 C11_25
abbrev C11_27 := Sq [0,1,2,6] C11_0 C11_26
abbrev C11 := C11_27
abbrev C11r : List RV := [.c 6 (some 36),.t 7]
theorem C11ok : Okf Tryz.prog 11 Tryz.f11 C11 C11r := ⟨Tryz.func11, by kernel_rfl, by kernel_rfl, by kernel_rfl⟩

/-- mimesis/mimesislaw18.Of -/
abbrev C12_0 := Ro [Br 1 t0,Al 2 [z4,z4,z4,z4,z4,z4,z4,z4,z4,z4,z4,z4,z4,z4,z4,z4,z4,z4,z4,z4,z4,z4,z4,z4,z4,z4,z4,z4,z4,z4,z4,z4,z4,z4,z4,z4,z4,z4,z4,z4,z8,z8,z8,z8,.nils,.nils,zi,.nils,zb,.nils,z8,z8,zb,zb,z4,.nils]]
abbrev C12_1 := Ro [Fa 4 44 t1,Ld 5 none t4,Fa 6 48 t1,Ld 7 none t6,Fa 8 45 t1,Ld 9 none t8,Fa 10 47 t1,Ld 11 none t10,Fa 12 46 t1,Ld 13 none t12,⟨(some 14),none,.r (.bld [.nils,zi,.nils,zb,.nils] [(1,1,t7),(2,1,t9),(3,1,t11),(4,1,t13)])⟩,Fa 15 49 t1,Fa 16 0 t15,Ld 17 none t16,Fa 18 49 t1,Fa 19 1 t18,Ld 20 none t19,Fa 21 49 t1,Fa 22 2 t21,Ld 23 none t22,⟨(some 24),none,.r (.bld [.int .u64 0,.int .u64 0,.bool false] [(0,1,t17),(1,1,t20),(2,1,t23)])⟩,Fa 25 52 t1,Ld 26 none t25,Fa 27 53 t1,Ld 28 none t27,⟨(some 29),none,.r (.bld [.nils,.nils,zi,.nils,zb,.nils,z8,z8,zb,zb,z4] [(0,1,t5),(1,5,t14),(6,3,t24),(9,1,t26),(10,1,t28)])⟩,Al 3 [.nils,.nils,zi,.nils,zb,.nils,z8,z8,zb,zb,z4],Sxn 11 t3 t29]
abbrev C12_2 := Ro [Fa 30 0 t1,Ld 31 none t30,Fa 32 1 t1,Ld 33 (some 32) t32,Fa 34 33 t1,Fa 35 0 t34,Ld 36 (some 7) t35,Fa 37 33 t1,Fa 38 7 t37,Ld 39 none t38,Fa 40 33 t1,Fa 41 8 t40,Ld 42 none t41,⟨(some 43),none,.r (.bld [z4,z4,z4,z4,z4,z4,z4,z8,z8] [(0,7,t36),(7,1,t39),(8,1,t42)])⟩,Fa 44 42 t1,Ld 45 none t44,Fa 46 43 t1,Ld 47 none t46,Ld 48 (some 11) t3,Fa 49 54 t1,Ld 50 none t49,⟨(some 51),none,.r (.bld [z4,z4,z4,z4,z4,z4,z4,z4,z4,z4,z4,z4,z4,z4,z4,z4,z4,z4,z4,z4,z4,z4,z4,z4,z4,z4,z4,z4,z4,z4,z4,z4,z4,z4,z4,z4,z4,z4,z4,z4,z8,z8,z8,z8,.nils,.nils,zi,.nils,zb,.nils,z8,z8,zb,zb,z4,.nils] [(0,1,t31),(1,32,t33),(33,9,t43),(42,1,t45),(43,1,t47),(44,11,t48),(55,1,t50)])⟩,Sxn 56 t2 t51]
abbrev C12_3 := Sq [2] C12_2 .ret
abbrev C12_4 : ACode := .fz 3 C12_3
abbrev C12_5 := Sq [1,2,3] C12_1 C12_4
abbrev C12_6 := Sq [1,2] C12_0 C12_5
abbrev C12 := C12_6
abbrev C12r : List RV := [.c 2 (some 56)]
theorem C12ok : Okf Tryz.prog 12 Tryz.f12 C12 C12r := ⟨Tryz.func12, by kernel_rfl, by kernel_rfl, by kernel_rfl⟩

/-- (*mimesis/cpu.Cpu).State -/
abbrev C13_0 := Ro [Al 2 [z4,z4,z4,z4,z4,z4,z4,z4,z4,z4,z4,z4,z4,z4,z4,z4,z4,z4,z4,z4,z4,z4,z4,z4,z4,z4,z4,z4,z4,z4,z4,z4,z4,z4,z4,z4,z4,z4,z4,z4,z8,z8,z8,z8,.nils,.nils,.nils,zb,zi,z8,z8,zb,zb,z4,.nils]]
abbrev C13_1 := Ro [Mv 5 t0,Ep 6 false t5 kP]
abbrev C13_2 := Ro [⟨(some 7),none,.r (.bld [z4,z4,z4,z4,z4,z4,z4,z4,z4,z4,z4,z4,z4,z4,z4,z4,z4,z4,z4,z4,z4,z4,z4,z4,z4,z4,z4,z4,z4,z4,z4,z4,z4,z4,z4,z4,z4,z4,z4,z4,z8,z8,z8,z8,.nils,.nils,.nils,zb,zi,z8,z8,zb,zb,z4,.nils] [])⟩,Sxn 55 t2 t7]
abbrev C13_3 := Sq [2] C13_2 .ret
abbrev C13_4 := Cd t6 C13_3 .skip
abbrev C13_5 := Sq [0,2,6] C13_1 C13_4
abbrev C13_6 : ACode := .dregt [Mv 8 t0,Nc 9 t8,Fa 10 0 t9,Ld 11 none t10,Mv 12 t0,Nc 13 t12,Fa 14 1 t13,Ld 15 (some 32) t14,Mv 16 t0,Nc 17 t16,Fa 18 33 t17,Ld 19 (some 9) t18,Mv 20 t0,Nc 21 t20,Fa 22 42 t21,Ld 23 none t22,Mv 24 t0,Nc 25 t24,Fa 26 43 t25,Ld 27 none t26,Mv 28 t0,Nc 29 t28,Fa 30 44 t29,Ld 31 none t30,Ca 32 28 [t31],Ca 33 29 [t32],Mv 34 t0,Nc 35 t34,Fa 36 45 t35,Ld 37 none t36,Ca 38 30 [t37],⟨(some 39),none,.r (.bld [z4,z4,z4,z4,z4,z4,z4,z4,z4,z4,z4,z4,z4,z4,z4,z4,z4,z4,z4,z4,z4,z4,z4,z4,z4,z4,z4,z4,z4,z4,z4,z4,z4,z4,z4,z4,z4,z4,z4,z4,z8,z8,z8,z8,.nils,.nils,.nils,zb,zi,z8,z8,zb,zb,z4,.nils] [(0,1,t11),(1,32,t15),(33,9,t19),(42,1,t23),(43,1,t27),(44,1,t33),(54,1,t38)])⟩,Al 3 [z4,z4,z4,z4,z4,z4,z4,z4,z4,z4,z4,z4,z4,z4,z4,z4,z4,z4,z4,z4,z4,z4,z4,z4,z4,z4,z4,z4,z4,z4,z4,z4,z4,z4,z4,z4,z4,z4,z4,z4,z8,z8,z8,z8,.nils,.nils,.nils,zb,zi,z8,z8,zb,zb,z4,.nils],Sxn 55 t3 t39] [[],[0],[1],[2],[],[4],[5],[6],[],[8],[9],[10],[],[12],[13],[14],[],[16],[17],[18],[],[20],[21],[22],[23],[24,24],[],[26],[27],[28],[29,25],[3,7,11,15,19,25,30],[],[32,31,30,0,1,2,3,4,5,6,7,8,9,10,11,12,13,14,15,16,17,18,19,20,21,22,23,24,25,26,27,28,29,30,31,32]] (.r 0 (.r 1 (.r 2 (.r 3 (.r 4 (.r 5 (.r 6 (.r 7 (.r 8 (.r 9 (.r 10 (.r 11 (.r 12 (.r 13 (.r 14 (.r 15 (.r 16 (.r 17 (.r 18 (.r 19 (.r 20 (.r 21 (.r 22 (.r 23 (.r 26 (.r 27 (.r 28 (.r 29 (.e 24 [0,1,2,3,4,5,6,7,8,9,10,11,12,13,14,15,16,17,18,19,26,27,28,29] (.e 25 [0,1,2,3,4,5,6,7,8,9,10,11,12,13,14,15,16,17,18,19,26,27,28,29] (.e 30 [0,1,2,3,4,5,6,7,8,9,10,11,12,13,14,15,16,17,18,19] (.r 31 (.e 32 [0,1,2,3,4,5,6,7,8,9,10,11,12,13,14,15,16,17,18,19,20,21,22,23,26,27,28,29,31] (.e 33 [] .nil .nil) .nil)) (.e 32 [0,1,2,3,4,5,6,7,8,9,10,11,12,13,14,15,16,17,18,19,20,21,22,23,26,27,28,29] (.e 30 [0,1,2,3,4,5,6,7,8,9,10,11,12,13,14,15,16,17,18,19] (.r 31 (.e 33 [] .nil .nil)) .nil) .nil)) (.e 32 [0,1,2,3,4,5,6,7,8,9,10,11,12,13,14,15,16,17,18,19,20,21,22,23,26,27,28,29] (.e 25 [0,1,2,3,4,5,6,7,8,9,10,11,12,13,14,15,16,17,18,19,26,27,28,29] (.e 30 [0,1,2,3,4,5,6,7,8,9,10,11,12,13,14,15,16,17,18,19] (.r 31 (.e 33 [] .nil .nil)) .nil) .nil) .nil)) (.e 32 [0,1,2,3,4,5,6,7,8,9,10,11,12,13,14,15,16,17,18,19,20,21,22,23,26,27,28,29] (.e 24 [0,1,2,3,4,5,6,7,8,9,10,11,12,13,14,15,16,17,18,19,26,27,28,29] (.e 25 [0,1,2,3,4,5,6,7,8,9,10,11,12,13,14,15,16,17,18,19,26,27,28,29] (.e 30 [0,1,2,3,4,5,6,7,8,9,10,11,12,13,14,15,16,17,18,19] (.r 31 (.e 33 [] .nil .nil)) .nil) .nil) .nil) .nil))))))))))))))))))))))))))))))
abbrev C13_7 := Ro [Mv 40 t0,Nc 41 t40,Fa 42 44 t41,Ld 43 none t42,Ca 44 31 [t43],As 4 t44]
abbrev C13_8 := Ro [Mv 45 t4,Ca 46 32 [t45],Mv 47 t4,Ca 48 33 [t47],Mv 49 t4,Ca 50 34 [t49],Mv 51 t4,Ca 52 35 [t51],Fa 53 45 t3,Sxn 1 t53 t46,Fa 54 46 t3,Sxn 1 t54 t48,Fa 55 47 t3,Sxn 1 t55 t50,Fa 56 48 t3,Sxn 1 t56 t52]
abbrev C13_9 := Ro [Mv 57 t0,Nc 58 t57,Fa 59 44 t58,Ld 60 none t59,Ca 61 24 [t60],Nc 62 t61,Ld 63 (some 3) t62,Fa 64 49 t3,Sxn 3 t64 t63]
abbrev C13_10 := Ro [Mv 66 t0,Nc 67 t66,Fa 68 44 t67,Ld 69 none t68,Ca 70 36 [t69],Mv 65 t70,Ex 71 0 t65,Ex 72 1 t65,Fa 73 53 t3,Sxn 1 t73 t71,Fa 74 52 t3,Sxn 1 t74 t72]
abbrev C13_11 := Ro [Ld 75 (some 55) t3,Sxn 55 t2 t75]
abbrev C13_12 := Sq [2] C13_11 .ret
abbrev C13_13 := Sq [2,3] C13_10 C13_12
abbrev C13_14 := Sq [0,2,3] C13_9 C13_13
abbrev C13_15 := Sq [0,2,3] C13_8 C13_14
abbrev C13_16 := Sq [0,2,3,4] C13_7 C13_15
abbrev C13_17 := Sq [0,2,3] C13_6 C13_16
abbrev C13_18 := Sq [0,2] C13_5 C13_17
abbrev C13_19 := Sq [0,2] C13_0 C13_18
abbrev C13 := C13_19
abbrev C13r : List RV := [.c 2 (some 55)]
theorem C13ok : Okf Tryz.prog 13 Tryz.f13 C13 C13r := ⟨Tryz.func13, by kernel_rfl, by kernel_rfl, by kernel_rfl⟩

/-- mimesis/mimesisref23.Check -/
abbrev C14_0 := Ro [Br 1 t0,As 2 (kI 0)]
abbrev C14_1 := Ro [Fa 6 0 t1,Ld 7 none t6,Ln 8 t7,Bn 9 .gtr t8 (kI 32),Mv 10 t9,Faf 11 10 1 t1,Ldf 12 10 none t11,Lnf 13 10 t12,Bnf 14 10 .gtr t13 (kI 512),Pk 15 t10 kT t14,Mv 16 t15,Faf 17 16 2 t1,Ldf 18 16 none t17,Lnf 19 16 t18,Bnf 20 16 .gtr t19 (kI 128),Pk 21 t16 kT t20]
abbrev C14_2 := Ro [As 2 (kI 3)]
abbrev C14_3 := Sq [2] C14_2 .ret
abbrev C14_4 := Cd t21 C14_3 .skip
abbrev C14_5 := Sq [1,21] C14_1 C14_4
abbrev C14_6 := Ro [As 3 (kI 0)]
abbrev C14_7 := Ro [Mv 22 t3,Fa 23 1 t1,Ld 24 none t23,Ln 25 t24,Bn 26 .lss t22 t25]
abbrev C14_8 := Cd t26 .skip (.exit 0)
abbrev C14_9 := Sq [1,3,26] C14_7 C14_8
abbrev C14_10 := Ro [Ld 29 (some 4) t1,Mv 30 t3,Ca 31 37 [t29,t30],Un 32 .not t31]
abbrev C14_11 := Ro [As 2 (kI 1)]
abbrev C14_12 := Sq [2] C14_11 .ret
abbrev C14_13 := Cd t32 C14_12 .skip
abbrev C14_14 := Sq [1,3,32] C14_10 C14_13
abbrev C14_15 := Bk 1 C14_14
abbrev C14_16 := Ro [Mv 27 t3,Bn 28 .add t27 (kI 1),As 3 t28]
abbrev C14_17 := Sq [1,3] C14_15 C14_16
abbrev C14_18 := Sq [1,3] C14_9 C14_17
abbrev C14_19 : ACode := .loop C14_18
abbrev C14_20 := Bk 0 C14_19
abbrev C14_21 := Sq [1,3] C14_6 C14_20
abbrev C14_22 := Ro [As 4 (kI 0)]
abbrev C14_23 := Ro [Mv 33 t4,Fa 34 2 t1,Ld 35 none t34,Ln 36 t35,Bn 37 .lss t33 t36]
abbrev C14_24 := Cd t37 .skip (.exit 2)
abbrev C14_25 := Sq [1,4,37] C14_23 C14_24
abbrev C14_26 := Ro [Ld 40 (some 4) t1,Mv 41 t4,Ca 42 38 [t40,t41],Un 43 .not t42]
abbrev C14_27 := Ro [As 2 (kI 1)]
abbrev C14_28 := Sq [2] C14_27 .ret
abbrev C14_29 := Cd t43 C14_28 .skip
abbrev C14_30 := Sq [1,4,43] C14_26 C14_29
abbrev C14_31 := Bk 3 C14_30
abbrev C14_32 := Ro [Mv 38 t4,Bn 39 .add t38 (kI 1),As 4 t39]
abbrev C14_33 := Sq [1,4] C14_31 C14_32
abbrev C14_34 := Sq [1,4] C14_25 C14_33
abbrev C14_35 : ACode := .loop C14_34
abbrev C14_36 := Bk 2 C14_35
abbrev C14_37 := Sq [1,4] C14_22 C14_36
abbrev C14_38 := Ro [As 5 (kI 0)]
abbrev C14_39 := Ro [Mv 44 t5,Fa 45 0 t1,Ld 46 none t45,Ln 47 t46,Bn 48 .lss t44 t47]
abbrev C14_40 := Cd t48 .skip (.exit 4)
abbrev C14_41 := Sq [1,5,48] C14_39 C14_40
abbrev C14_42 := Ro [Fa 51 0 t1,Ld 52 none t51,Mv 53 t5,Ix 54 1 t52 t53,Ld 55 none t54,Bn 56 .rem t55 (kU 4),Bn 57 .neq t56 (kU 0)]
abbrev C14_43 := Ro [As 2 (kI 1)]
abbrev C14_44 := Sq [2] C14_43 .ret
abbrev C14_45 := Cd t57 C14_44 .skip
abbrev C14_46 := Sq [1,5,57] C14_42 C14_45
abbrev C14_47 := Bk 5 C14_46
abbrev C14_48 := Ro [Mv 49 t5,Bn 50 .add t49 (kI 1),As 5 t50]
abbrev C14_49 := Sq [1,5] C14_47 C14_48
abbrev C14_50 := Sq [1,5] C14_41 C14_49
abbrev C14_51 : ACode := .loop C14_50
abbrev C14_52 := Bk 4 C14_51
abbrev C14_53 := Sq [1,5] C14_38 C14_52
abbrev C14_54 := Ro [Fa 58 0 t1,Ld 59 none t58,Ln 60 t59,Bn 61 .eql t60 (kI 0),Mv 62 t61,Ldf 63 62 (some 4) t1,Faf 64 62 3 t1,Ldf 65 62 none t64,Faf 66 62 1 t1,Ldf 67 62 none t66,Lnf 68 62 t67,Caf 69 62 39 [t63,t65,t68],Unf 70 62 .not t69,Pk 71 t62 kT t70]
abbrev C14_55 := Ro [As 2 (kI 1)]
abbrev C14_56 := Sq [2] C14_55 .ret
abbrev C14_57 := Cd t71 C14_56 .skip
abbrev C14_58 := Sq [71] C14_54 C14_57
abbrev C14_59 := Ro [As 2 (kI 0)]
abbrev C14_60 := Sq [2] C14_59 .ret
abbrev C14_61 := Sq [] C14_58 C14_60
abbrev C14_62 := Sq [1] C14_53 C14_61
abbrev C14_63 := Sq [1] C14_37 C14_62
abbrev C14_64 := Sq [1] C14_21 C14_63
abbrev C14_65 := Sq [1] C14_5 C14_64
abbrev C14_66 := Sq [1] C14_0 C14_65
abbrev C14 := C14_66
abbrev C14r : List RV := [.t 2]
theorem C14ok : Okf Tryz.prog 14 Tryz.f14 C14 C14r := ⟨Tryz.func14, by kernel_rfl, by kernel_rfl, by kernel_rfl⟩

/-- mimesis/mimesisref18.Same -/
abbrev C15_0 := Ro [Br 2 t0,Br 3 t1,As 4 kF]
abbrev C15_1 := Ro [Fa 7 0 t2,Ld 8 none t7,Fa 9 0 t3,Ld 10 none t9,Bn 11 .neq t8 t10,Mv 12 t11,Faf 13 12 1 t2,Ldf 14 12 (some 32) t13,Faf 15 12 1 t3,Ldf 16 12 (some 32) t15,⟨(some 17),(some (12,false)),.r (.eqa true [.i,.i,.i,.i,.i,.i,.i,.i,.i,.i,.i,.i,.i,.i,.i,.i,.i,.i,.i,.i,.i,.i,.i,.i,.i,.i,.i,.i,.i,.i,.i,.i] t14 t16)⟩,Pk 18 t12 kT t17,Mv 19 t18,Faf 20 19 33 t2,Ldf 21 19 (some 9) t20,Faf 22 19 33 t3,Ldf 23 19 (some 9) t22,⟨(some 24),(some (19,false)),.r (.eqa true [.i,.i,.i,.i,.i,.i,.i,.i,.i] t21 t23)⟩,Pk 25 t19 kT t24,Mv 26 t25,Faf 27 26 42 t2,Ldf 28 26 none t27,Faf 29 26 42 t3,Ldf 30 26 none t29,Bnf 31 26 .neq t28 t30,Pk 32 t26 kT t31,Mv 33 t32,Faf 34 33 43 t2,Ldf 35 33 none t34,Faf 36 33 43 t3,Ldf 37 33 none t36,Bnf 38 33 .neq t35 t37,Pk 39 t33 kT t38,Mv 40 t39,Faf 41 40 44 t2,Faf 42 40 6 t41,Ldf 43 40 (some 3) t42,Faf 44 40 44 t3,Faf 45 40 6 t44,Ldf 46 40 (some 3) t45,⟨(some 47),(some (40,false)),.r (.eqa true [.i,.i,.b] t43 t46)⟩,Pk 48 t40 kT t47,Mv 49 t48,Faf 50 49 44 t2,Faf 51 49 9 t50,Ldf 52 49 none t51,Faf 53 49 44 t3,Faf 54 49 9 t53,Ldf 55 49 none t54,⟨(some 56),(some (49,false)),.r (.eqb true t52 t55)⟩,Pk 57 t49 kT t56,Mv 58 t57,Faf 59 58 44 t2,Faf 60 58 10 t59,Ldf 61 58 none t60,Faf 62 58 44 t3,Faf 63 58 10 t62,Ldf 64 58 none t63,Bnf 65 58 .neq t61 t64,Pk 66 t58 kT t65]
abbrev C15_2 := Ro [As 4 kF]
abbrev C15_3 := Sq [4] C15_2 .ret
abbrev C15_4 := Cd t66 C15_3 .skip
abbrev C15_5 := Sq [2,3,66] C15_1 C15_4
abbrev C15_6 := Ro [Fa 67 44 t2,Fa 68 1 t67,Ld 69 (some 5) t68,Al 5 [.nils,zi,.nils,zb,.nils],Sxn 5 t5 t69]
abbrev C15_7 := Ro [Fa 70 44 t3,Fa 71 1 t70,Ld 72 (some 5) t71,Al 6 [.nils,zi,.nils,zb,.nils],Sxn 5 t6 t72]
abbrev C15_8 := Ro [Fa 73 44 t2,Fa 74 0 t73,Ld 75 none t74,Fa 76 44 t3,Fa 77 0 t76,Ld 78 none t77,Ca 79 40 [t75,t78],Mv 80 t79,Fat 81 80 2 t5,Ldt 82 80 none t81,Fat 83 80 2 t6,Ldt 84 80 none t83,Cat 85 80 40 [t82,t84],Pk 86 t80 t85 kF,Mv 87 t86,Fat 88 87 4 t5,Ldt 89 87 none t88,Fat 90 87 4 t6,Ldt 91 87 none t90,Cat 92 87 40 [t89,t91],Pk 93 t87 t92 kF,Mv 94 t93,Fat 95 94 3 t5,Ldt 96 94 none t95,Fat 97 94 3 t6,Ldt 98 94 none t97,⟨(some 99),(some (94,true)),.r (.eqb false t96 t98)⟩,Pk 100 t94 t99 kF,Mv 101 t100,Fat 102 101 1 t5,Ldt 103 101 none t102,Fat 104 101 1 t6,Ldt 105 101 none t104,Bnt 106 101 .eql t103 t105,Pk 107 t101 t106 kF,Mv 108 t107,Fat 109 108 55 t2,Ldt 110 108 none t109,Fat 111 108 55 t3,Ldt 112 108 none t111,Cat 113 108 41 [t110,t112],Pk 114 t108 t113 kF,As 4 t114]
abbrev C15_9 := Sq [4] C15_8 .ret
abbrev C15_10 : ACode := .fz 6 C15_9
abbrev C15_11 := Sq [2,3,5,6] C15_7 C15_10
abbrev C15_12 : ACode := .fz 5 C15_11
abbrev C15_13 := Sq [2,3,5] C15_6 C15_12
abbrev C15_14 := Sq [2,3] C15_5 C15_13
abbrev C15_15 := Sq [2,3] C15_0 C15_14
abbrev C15 := C15_15
abbrev C15r : List RV := [.t 4]
theorem C15ok : Okf Tryz.prog 15 Tryz.f15 C15 C15r := ⟨Tryz.func15, by kernel_rfl, by kernel_rfl, by kernel_rfl⟩

/-- mimesis/mimesisref25.May -/
abbrev C16_0 := Ro [Br 3 t0,Br 4 t1,As 6 kF]
abbrev C16_1 := Dr [Fa 7 44 t3,Fa 8 9 t7,Ld 9 none t8,Un 10 .not t9,Mv 11 t10,Fat 12 11 0 t4,Ldt 13 11 none t12,Ixt 14 11 1 t13 (kI 0),Ldt 15 11 none t14,Fat 16 11 0 t3,Ldt 17 11 none t16,Bnt 18 11 .eql t15 t17,Pk 19 t11 t18 kF,Mv 20 t19,Fat 21 20 0 t4,Ldt 22 20 none t21,Lnt 23 20 t22,Mvt 24 20 t2,Bnt 25 20 .leq t23 t24,Pk 26 t20 t25 kF,Mv 27 t26,Ldt 28 27 (some 56) t3,Fat 29 27 0 t4,Ldt 30 27 none t29,Lnt 31 27 t30,Cat 32 27 42 [t28,t31],Pk 33 t27 t32 kF,As 6 t33] [[],[0],[1],[2],[3],[4],[5,4],[6,4],[7,4],[4],[9,4],[8,10,4],[4,11],[12,4],[13],[14,13],[15,13],[13],[16,17,13],[13,18],[19,13],[20],[20],[22,20],[23,20],[21,24,20,20],[20,25],[26,25,0,1,2,3,4,5,6,7,8,9,10,11,12,13,14,15,16,17,18,19,20,21,22,23,24,25,26]] [(0,[]),(1,[]),(2,[]),(3,[]),(4,[]),(5,[]),(6,[]),(7,[]),(8,[]),(9,[]),(10,[]),(11,[]),(12,[]),(13,[]),(14,[]),(15,[]),(16,[]),(17,[]),(18,[]),(19,[]),(20,[]),(21,[]),(22,[]),(23,[]),(24,[]),(25,[]),(26,[]),(27,[])]
abbrev C16_2 := Sq [6] C16_1 .ret
abbrev C16_3 := Sq [2,3,4] C16_0 C16_2
abbrev C16 := C16_3
abbrev C16r : List RV := [.t 6]
theorem C16ok : Okf Tryz.prog 16 Tryz.f16 C16 C16r := ⟨Tryz.func16, by kernel_rfl, by kernel_rfl, by kernel_rfl⟩

/-- mimesis/mimesisref25.Do -/
abbrev C17_0 := Ro [⟨(some 2),none,.e (.box t0)⟩,Br 3 t1,Al 4 [z4,z4,z4,z4,z4,z4,z4,z4,z4,z4,z4,z4,z4,z4,z4,z4,z4,z4,z4,z4,z4,z4,z4,z4,z4,z4,z4,z4,z4,z4,z4,z4,z4,z4,z4,z4,z4,z4,z4,z4,z8,z8,z8,z8,.nils,.nils,zi,.nils,zb,.nils,z8,z8,zb,zb,z4,.nils]]
abbrev C17_1 := Ro [Fa 7 44 t2,Fa 8 0 t7,Ld 9 none t8,Ln 10 t9,Bn 11 .quo t10 (kI 64),As 5 t11]
abbrev C17_2 : ACode := .dregt [Ld 12 (some 4) t3,Fa 13 1 t2,Ld 14 (some 32) t13,Fa 15 44 t2,Fa 16 0 t15,Ld 17 none t16,Mv 18 t5,⟨(some 19),none,.e (.mks 1 [.bool false] t18 t18)⟩,Mv 20 t5,⟨(some 21),none,.e (.mks 8 [.int .u64 0] t20 t20)⟩,⟨(some 22),none,.r (.bld [.nils,.nils,.nils] [(0,1,t17),(1,1,t19),(2,1,t21)])⟩,Ca 23 43 [t12,t14,t22],Al 6 [z4,z4,z4,z4,z4,z4,z4,z4,z4,z4,z4,z4,z4,z4,z4,z4,z4,z4,z4,z4,z4,z4,z4,z4,z4,z4,z4,z4,z4,z4,z4,z4,z4,zi,zi,zi,.nils,.nils,.nils],Sxn 39 t6 t23] [[],[],[1],[],[3],[4],[],[6,6],[],[8,8],[5,7,9],[0,2,10],[],[12,11,11,0,1,2,3,4,5,6,7,8,9,10,11,12]] (.r 0 (.r 1 (.r 2 (.r 3 (.r 4 (.r 5 (.r 6 (.r 8 (.e 7 [0,1,2,3,4,5,8] (.e 9 [0,1,2,3,4,5,6] (.r 10 (.e 11 [] (.e 12 [0,1,2,3,4,5,6,8,10] (.e 13 [] .nil .nil) .nil) (.e 12 [0,1,2,3,4,5,6,8,10] (.e 11 [] (.e 13 [] .nil .nil) .nil) .nil))) (.e 12 [0,1,2,3,4,5,6,8] (.e 9 [0,1,2,3,4,5,6] (.r 10 (.e 11 [] (.e 13 [] .nil .nil) .nil)) .nil) .nil)) (.e 9 [0,1,2,3,4,5,6] (.e 7 [0,1,2,3,4,5,8] (.r 10 (.e 11 [] (.e 12 [0,1,2,3,4,5,6,8,10] (.e 13 [] .nil .nil) .nil) (.e 12 [0,1,2,3,4,5,6,8,10] (.e 11 [] (.e 13 [] .nil .nil) .nil) .nil))) (.e 12 [0,1,2,3,4,5,6,8] (.e 7 [0,1,2,3,4,5,8] (.r 10 (.e 11 [] (.e 13 [] .nil .nil) .nil)) .nil) .nil)) (.e 12 [0,1,2,3,4,5,6,8] (.e 7 [0,1,2,3,4,5,8] (.e 9 [0,1,2,3,4,5,6] (.r 10 (.e 11 [] (.e 13 [] .nil .nil) .nil)) .nil) (.e 9 [0,1,2,3,4,5,6] (.e 7 [0,1,2,3,4,5,8] (.r 10 (.e 11 [] (.e 13 [] .nil .nil) .nil)) .nil) .nil)) .nil)))))))))))
abbrev C17_3 := Ro [Fa 24 0 t6,Ld 25 (some 32) t24,Fa 26 1 t2,Sxn 32 t26 t25]
abbrev C17_4 := Ro [Fa 27 32 t6,Ld 28 none t27,Fa 29 0 t2,Sxn 1 t29 t28]
abbrev C17_5 := Ro [Fa 30 42 t2,Ld 31 none t30,Fa 32 33 t6,Ld 33 none t32,Cv 34 .u64 t33,Bn 35 .add t31 t34,Fa 36 42 t2,Sxn 1 t36 t35]
abbrev C17_6 := Ro [Fa 37 43 t2,Ld 38 none t37,Fa 39 33 t6,Ld 40 none t39,Cv 41 .u64 t40,Bn 42 .add t38 t41,Fa 43 43 t2,Sxn 1 t43 t42]
abbrev C17_7 := Ro [Fa 44 36 t6,Fa 45 0 t44,Ld 46 none t45,Fa 47 44 t2,Fa 48 0 t47,Sxn 1 t48 t46]
abbrev C17_8 := Ro [Ld 49 (some 56) t2,Sxn 56 t4 t49]
abbrev C17_9 := Sq [4] C17_8 .ret
abbrev C17_10 := Sq [2,4] C17_7 C17_9
abbrev C17_11 := Sq [2,4,6] C17_6 C17_10
abbrev C17_12 := Sq [2,4,6] C17_5 C17_11
abbrev C17_13 := Sq [2,4,6] C17_4 C17_12
abbrev C17_14 := Sq [2,4,6] C17_3 C17_13
abbrev C17_15 := Sq [2,4,6] C17_2 C17_14
abbrev C17_16 := Sq [2,3,4,5] C17_1 C17_15
abbrev C17_17 := Sq [2,3,4] C17_0 C17_16
abbrev C17 := C17_17
abbrev C17r : List RV := [.c 4 (some 56)]
theorem C17ok : Okf Tryz.prog 17 Tryz.f17 C17 C17r := ⟨Tryz.func17, by kernel_rfl, by kernel_rfl, by kernel_rfl⟩

/-- mimesis/mimesisref18.Right -/
abbrev C18_0 := Ro [Br 1 t0,As 2 kF]
abbrev C18_1 := Ro [Fa 3 0 t1,Ld 4 none t3,Fa 5 1 t1,Ld 6 none t5,Fa 7 2 t1,Ld 8 none t7,Ca 9 44 [t4,t6,t8],Bn 10 .eql t9 (kI 0),Mv 11 t10,Fat 12 11 3 t1,Ldt 13 11 none t12,Bnt 14 11 .rem t13 (kU 4),Bnt 15 11 .eql t14 (kU 0),Pk 16 t11 t15 kF,Mv 17 t16,Fat 18 17 4 t1,⟨(some 19),(some (17,true)),.r (.ixa 32 1 t18 (kI 0))⟩,Ldt 20 17 none t19,Bnt 21 17 .eql t20 (kU 0),Pk 22 t17 t21 kF,Mv 23 t22,Fat 24 23 36 t1,Ldt 25 23 (some 7) t24,Cat 26 23 45 [t25],Pk 27 t23 t26 kF,As 2 t27]
abbrev C18_2 := Sq [2] C18_1 .ret
abbrev C18_3 := Sq [1] C18_0 C18_2
abbrev C18 := C18_3
abbrev C18r : List RV := [.t 2]
theorem C18ok : Okf Tryz.prog 18 Tryz.f18 C18 C18r := ⟨Tryz.func18, by kernel_rfl, by kernel_rfl, by kernel_rfl⟩

/-- mimesis/cpu.Same -/
abbrev C19_0 := Ro [Br 2 t0,Br 3 t1,As 4 kF]
abbrev C19_1 := Dr [Ld 5 (some 55) t2,Ca 6 46 [t5],Ld 7 (some 55) t3,Ca 8 46 [t7],⟨(some 9),none,.r (.eqa false [.i,.i,.i,.i,.i,.i,.i,.i,.i,.i,.i,.i,.i,.i,.i,.i,.i,.i,.i,.i,.i,.i,.i,.i,.i,.i,.i,.i,.i,.i,.i,.i,.i,.i,.i,.i,.i,.i,.i,.i,.i,.i,.i,.i,.b,.b,.i,.i,.i,.b,.i] t6 t8)⟩,Mv 10 t9,Fat 11 10 44 t2,Ldt 12 10 none t11,Fat 13 10 44 t3,Ldt 14 10 none t13,Cat 15 10 47 [t12,t14],Pk 16 t10 t15 kF,Mv 17 t16,Fat 18 17 45 t2,Ldt 19 17 none t18,Fat 20 17 45 t3,Ldt 21 17 none t20,Cat 22 17 47 [t19,t21],Pk 23 t17 t22 kF,Mv 24 t23,Fat 25 24 46 t2,Ldt 26 24 none t25,Fat 27 24 46 t3,Ldt 28 24 none t27,Cat 29 24 47 [t26,t28],Pk 30 t24 t29 kF,Mv 31 t30,Fat 32 31 54 t2,Ldt 33 31 none t32,Fat 34 31 54 t3,Ldt 35 31 none t34,Cat 36 31 48 [t33,t35],Pk 37 t31 t36 kF,As 4 t37] [[],[0],[],[2,1],[1,3],[4,3],[5],[6,5],[5],[8,5],[7,9,5,5],[5,10],[11,10],[12],[13,12],[12],[15,12],[14,16,12,12],[12,17],[18,17],[19],[20,19],[19],[22,19],[21,23,19,19],[19,24],[25,24],[26],[27,26],[26],[29,26],[28,30,26,26],[26,31],[32,31,0,1,2,3,4,5,6,7,8,9,10,11,12,13,14,15,16,17,18,19,20,21,22,23,24,25,26,27,28,29,30,31,32]] [(0,[]),(2,[]),(1,[2]),(3,[]),(4,[]),(5,[]),(6,[]),(7,[]),(8,[]),(9,[]),(10,[]),(11,[]),(12,[]),(13,[]),(14,[]),(15,[]),(16,[]),(17,[]),(18,[]),(19,[]),(20,[]),(21,[]),(22,[]),(23,[]),(24,[]),(25,[]),(26,[]),(27,[]),(28,[]),(29,[]),(30,[]),(31,[]),(32,[]),(33,[])]
abbrev C19_2 := Sq [4] C19_1 .ret
abbrev C19_3 := Sq [2,3] C19_0 C19_2
abbrev C19 := C19_3
abbrev C19r : List RV := [.t 4]
theorem C19ok : Okf Tryz.prog 19 Tryz.f19 C19 C19r := ⟨Tryz.func19, by kernel_rfl, by kernel_rfl, by kernel_rfl⟩

/-- mimesis/cpu.New -/
abbrev C20_0 := Ro [As 6 kP,As 7 (kI 0)]
abbrev C20_1 := Ro [Mv 14 t0,Ca 15 49 [t14],Mv 13 t15,Ex 16 0 t13,Ex 17 1 t13,As 8 t16,As 9 t17]
abbrev C20_2 := Ro [Mv 18 t9,Bn 19 .neq t18 (kI 0)]
abbrev C20_3 := Ro [Mv 20 t9,As 6 kP,As 7 t20]
abbrev C20_4 := Sq [6,7] C20_3 .ret
abbrev C20_5 := Cd t19 C20_4 .skip
abbrev C20_6 := Sq [1,2,8,9,19] C20_2 C20_5
abbrev C20_7 := Ro [Mv 21 t8,Mv 22 t1,Ca 23 50 [t21,t22],As 10 t23]
abbrev C20_8 := Ro [Mv 24 t10,Bn 25 .neq t24 (kI 0)]
abbrev C20_9 := Ro [Mv 26 t10,As 6 kP,As 7 t26]
abbrev C20_10 := Sq [6,7] C20_9 .ret
abbrev C20_11 := Cd t25 C20_10 .skip
abbrev C20_12 := Sq [2,8,10,25] C20_8 C20_11
abbrev C20_13 := Sq [2,8,10] C20_7 C20_12
abbrev C20_14 := Ro [Mv 28 t2,Ca 29 51 [t28],Mv 27 t29,Ex 30 0 t27,Ex 31 1 t27,As 11 t30,As 9 t31]
abbrev C20_15 := Ro [Mv 32 t9,Bn 33 .neq t32 (kI 0)]
abbrev C20_16 := Ro [Mv 34 t9,As 6 kP,As 7 t34]
abbrev C20_17 := Sq [6,7] C20_16 .ret
abbrev C20_18 := Cd t33 C20_17 .skip
abbrev C20_19 := Sq [8,9,11,33] C20_15 C20_18
abbrev C20_20 := Ro [Mv 36 t8,Mv 37 t11,Ca 38 53 [],Ca 39 52 [t36,t37,t38],Mv 35 t39,Ex 40 0 t35,Ex 41 1 t35,As 12 t40,As 9 t41]
abbrev C20_21 := Ro [Ca 42 54 [],Mv 43 t12,⟨(some 44),none,.r (.bld [z4,z4,z4,z4,z4,z4,z4,z4,z4,z4,z4,z4,z4,z4,z4,z4,z4,z4,z4,z4,z4,z4,z4,z4,z4,z4,z4,z4,z4,z4,z4,z4,z4,z4,z4,z4,z4,z4,z4,z4,z8,z8,z8,z8,.nilp,.nils] [(0,1,(kU 2147483648)),(33,9,t42),(44,1,t43)])⟩,⟨(some 45),none,.e (.box t44)⟩,Mv 46 t9,As 6 t45,As 7 t46]
abbrev C20_22 := Sq [6,7] C20_21 .ret
abbrev C20_23 := Sq [9,12] C20_20 C20_22
abbrev C20_24 := Sq [8,11] C20_19 C20_23
abbrev C20_25 := Sq [8,9,11] C20_14 C20_24
abbrev C20_26 := Sq [2,8] C20_13 C20_25
abbrev C20_27 := Sq [1,2,8] C20_6 C20_26
abbrev C20_28 := Sq [1,2,8,9] C20_1 C20_27
abbrev C20_29 := Sq [0,1,2] C20_0 C20_28
abbrev C20 := C20_29
abbrev C20r : List RV := [.t 6,.t 7]
theorem C20ok : Okf Tryz.prog 20 Tryz.f20 C20 C20r := ⟨Tryz.func20, by kernel_rfl, by kernel_rfl, by kernel_rfl⟩

/-- (*mimesis/cpu.Cpu).Reg -/
abbrev C21_0 := Ro [As 4 (kU 0)]
abbrev C21_1 := Ro [Mv 5 t0,Mv 6 t1,Ca 7 55 [t5,t6],Un 8 .not t7,Mv 9 t8,Mvf 10 9 t1,Bnf 11 9 .eql t10 (kI 0),Pk 12 t9 kT t11]
abbrev C21_2 := Ro [As 4 (kU 0)]
abbrev C21_3 := Sq [4] C21_2 .ret
abbrev C21_4 := Cd t12 C21_3 .skip
abbrev C21_5 := Sq [0,1,12] C21_1 C21_4
abbrev C21_6 := Ro [Mv 13 t0,Mv 14 t1,Nc 15 t13,Fa 16 1 t15,⟨(some 17),none,.r (.ixa 32 1 t16 t14)⟩,Ld 18 none t17,As 4 t18]
abbrev C21_7 := Sq [4] C21_6 .ret
abbrev C21_8 := Sq [0,1] C21_5 C21_7
abbrev C21_9 := Sq [0,1] C21_0 C21_8
abbrev C21 := C21_9
abbrev C21r : List RV := [.t 4]
theorem C21ok : Okf Tryz.prog 21 Tryz.f21 C21 C21r := ⟨Tryz.func21, by kernel_rfl, by kernel_rfl, by kernel_rfl⟩

/-- mimesis/mimesislaw18.Parts -/
abbrev C22_0 := Ro [As 2 kS]
abbrev C22_1 := Ro [⟨(some 5),none,.e (.bsl 0 [] [])⟩,As 3 t5]
abbrev C22_2 := Ro [As 4 (kI 0)]
abbrev C22_3 := Ro [Mv 6 t4,Mv 7 t0,Ln 8 t7,Bn 9 .lss t6 t8]
abbrev C22_4 := Cd t9 .skip (.exit 0)
abbrev C22_5 := Sq [0,3,4,9] C22_3 C22_4
abbrev C22_6 := Dr [Mv 12 t3,Mv 13 t0,Mv 14 t4,Ix 15 2 t13 t14,Fa 16 0 t15,Ld 17 none t16,Mv 18 t0,Mv 19 t4,Ix 20 2 t18 t19,Fa 21 1 t20,Ld 22 none t21,⟨(some 23),none,.r (.bld [.int .u32 0,.nils] [(0,1,t17),(1,1,t22)])⟩,⟨(some 24),none,.e (.bsr 1 [.int .u32 0,.nils] [(0,2,t23)])⟩,Ap 25 2 32 t12 t24,As 3 t25] [[],[],[],[1,2],[3],[4],[],[],[6,7],[8],[9],[5,10],[11],[0,12],[13,13,0,1,2,3,4,5,6,7,8,9,10,11,12,13]] [(0,[]),(1,[]),(2,[]),(3,[]),(4,[]),(5,[]),(6,[]),(7,[]),(8,[]),(9,[]),(10,[]),(11,[]),(12,[0]),(13,[]),(14,[])]
abbrev C22_7 := Bk 1 C22_6
abbrev C22_8 := Ro [Mv 10 t4,Bn 11 .add t10 (kI 1),As 4 t11]
abbrev C22_9 := Sq [0,3,4] C22_7 C22_8
abbrev C22_10 := Sq [0,3,4] C22_5 C22_9
abbrev C22_11 : ACode := .loop C22_10
abbrev C22_12 := Bk 0 C22_11
abbrev C22_13 := Sq [0,3,4] C22_2 C22_12
abbrev C22_14 := Ro [Mv 26 t3,As 2 t26]
abbrev C22_15 := Sq [2] C22_14 .ret
abbrev C22_16 := Sq [3] C22_13 C22_15
abbrev C22_17 := Sq [0,3] C22_1 C22_16
abbrev C22_18 := Sq [0] C22_0 C22_17
abbrev C22 := C22_18
abbrev C22r : List RV := [.t 2]
theorem C22ok : Okf Tryz.prog 22 Tryz.f22 C22 C22r := ⟨Tryz.func22, by kernel_rfl, by kernel_rfl, by kernel_rfl⟩

/-- (*mimesis/cpu.Cpu).Bus -/
abbrev C23_0 := Ro [As 2 kP]
abbrev C23_1 := Ro [Mv 3 t0,Ep 4 false t3 kP]
abbrev C23_2 := Ro [As 2 kP]
abbrev C23_3 := Sq [2] C23_2 .ret
abbrev C23_4 := Cd t4 C23_3 .skip
abbrev C23_5 := Sq [0,4] C23_1 C23_4
abbrev C23_6 := Ro [Mv 5 t0,Nc 6 t5,Fa 7 44 t6,Ld 8 none t7,As 2 t8]
abbrev C23_7 := Sq [2] C23_6 .ret
abbrev C23_8 := Sq [0] C23_5 C23_7
abbrev C23_9 := Sq [0] C23_0 C23_8
abbrev C23 := C23_9
abbrev C23r : List RV := [.t 2]
theorem C23ok : Okf Tryz.prog 23 Tryz.f23 C23 C23r := ⟨Tryz.func23, by kernel_rfl, by kernel_rfl, by kernel_rfl⟩

/-- (*mimesis/bus.Bus).Timer -/
abbrev C24_0 := Ro [As 2 kP]
abbrev C24_1 := Ro [Mv 3 t0,Ep 4 false t3 kP]
abbrev C24_2 := Ro [As 2 kP]
abbrev C24_3 := Sq [2] C24_2 .ret
abbrev C24_4 := Cd t4 C24_3 .skip
abbrev C24_5 := Sq [0,4] C24_1 C24_4
abbrev C24_6 := Ro [Mv 5 t0,Nc 6 t5,Fa 7 2 t6,Ld 8 none t7,As 2 t8]
abbrev C24_7 := Sq [2] C24_6 .ret
abbrev C24_8 := Sq [0] C24_5 C24_7
abbrev C24_9 := Sq [0] C24_0 C24_8
abbrev C24 := C24_9
abbrev C24r : List RV := [.t 2]
theorem C24ok : Okf Tryz.prog 24 Tryz.f24 C24 C24r := ⟨Tryz.func24, by kernel_rfl, by kernel_rfl, by kernel_rfl⟩

/-- mimesis/mimesisref18.New -/
abbrev C25_0 := Ro [Al 6 [z4,z4,z4,z4,z4,z4,z4,z4,z4,z4,z4,z4,z4,z4,z4,z4,z4,z4,z4,z4,z4,z4,z4,z4,z4,z4,z4,z4,z4,z4,z4,z4,z4,z4,z4,z4,z4,z4,z4,z4,z8,z8,z8,z8,.nils,.nils,zi,.nils,zb,.nils,z8,z8,zb,zb,z4,.nils]]
abbrev C25_1 := Ro [Mv 8 t0,⟨(some 9),none,.e (.mks 1 [.int .u8 0] t8 t8)⟩,Mv 10 t1,Ca 11 56 [t9,t10],Mv 12 t2,⟨(some 13),none,.r (.bld [.nils,zi,.nils,zb,.nils] [(0,1,t12)])⟩,Ca 14 57 [],⟨(some 15),none,.r (.bld [.nils,.nils,zi,.nils,zb,.nils,z8,z8,zb,zb,z4] [(0,1,t11),(1,5,t13),(6,3,t14)])⟩,Al 7 [.nils,.nils,zi,.nils,zb,.nils,z8,z8,zb,zb,z4],Sxn 11 t7 t15]
abbrev C25_2 := Dr [Ca 16 58 [],Ld 17 (some 11) t7,⟨(some 18),none,.r (.bld [z4,z4,z4,z4,z4,z4,z4,z4,z4,z4,z4,z4,z4,z4,z4,z4,z4,z4,z4,z4,z4,z4,z4,z4,z4,z4,z4,z4,z4,z4,z4,z4,z4,z4,z4,z4,z4,z4,z4,z4,z8,z8,z8,z8,.nils,.nils,zi,.nils,zb,.nils,z8,z8,zb,zb,z4,.nils] [(0,1,(kU 2147483648)),(33,9,t16),(44,11,t17)])⟩,Sxn 56 t6 t18] [[],[],[0,1],[2,0,0,1,2]] [(1,[]),(0,[1]),(2,[]),(3,[])]
abbrev C25_3 := Sq [6] C25_2 .ret
abbrev C25_4 : ACode := .fz 7 C25_3
abbrev C25_5 := Sq [6,7] C25_1 C25_4
abbrev C25_6 := Sq [0,1,2,6] C25_0 C25_5
abbrev C25 := C25_6
abbrev C25r : List RV := [.c 6 (some 56)]
theorem C25ok : Okf Tryz.prog 25 Tryz.f25 C25 C25r := ⟨Tryz.func25, by kernel_rfl, by kernel_rfl, by kernel_rfl⟩

/-- mimesis/apply.asked -/
abbrev C26_0 := Ro [As 6 (kI 0)]
abbrev C26_1 := Ro [Mv 10 t0,Ep 11 false t10 kP]
abbrev C26_2 := Ro [As 6 (kI 2)]
abbrev C26_3 := Sq [6] C26_2 .ret
abbrev C26_4 := Cd t11 C26_3 .skip
abbrev C26_5 := Sq [0,1,2,11] C26_1 C26_4
abbrev C26_6 := Ro [Mv 12 t1,Ca 13 59 [t12],As 7 t13]
abbrev C26_7 := Ro [Mv 14 t7,Bn 15 .neq t14 (kI 0)]
abbrev C26_8 := Ro [Mv 16 t7,As 6 t16]
abbrev C26_9 := Sq [6] C26_8 .ret
abbrev C26_10 := Cd t15 C26_9 .skip
abbrev C26_11 := Sq [0,1,2,7,15] C26_7 C26_10
abbrev C26_12 := Sq [0,1,2,7] C26_6 C26_11
abbrev C26_13 := Ro [Mv 18 t0,Ca 19 23 [t18],Ca 20 36 [t19],Mv 17 t20,Ex 21 0 t17,Ex 22 1 t17,As 8 t21,As 9 t22]
abbrev C26_14 := Dr [Mv 23 t9,Mv 24 t23,Mvf 25 24 t1,Ncf 26 24 t25,Faf 27 24 0 t26,Ldf 28 24 none t27,Ixf 29 24 1 t28 (kI 0),Ldf 30 24 none t29,Mvf 31 24 t0,Ncf 32 24 t31,Faf 33 24 0 t32,Ldf 34 24 none t33,Bnf 35 24 .neq t30 t34,Pk 36 t24 kT t35,Mv 37 t36,Mvf 38 37 t1,Ncf 39 37 t38,Faf 40 37 0 t39,Ldf 41 37 none t40,Lnf 42 37 t41,Mvf 43 37 t2,Bnf 44 37 .gtr t42 t43,Pk 45 t37 kT t44,Mv 46 t45,Mvf 47 46 t1,Ncf 48 46 t47,Faf 49 46 0 t48,Ldf 50 46 none t49,Lnf 51 46 t50,Cvf 52 46 .u64 t51,Mvf 53 46 t0,Caf 54 46 60 [t53],Bnf 55 46 .gtr t52 t54,Pk 56 t46 kT t55] [[],[0],[1],[2,1],[3,1],[4,1],[5,1],[6,1],[1],[8,1],[9,1],[10,1],[7,11,1],[1,12],[13,1],[14],[15,14],[16,14],[17,14],[18,14],[14],[19,20,14],[14,21],[22,14],[23],[24,23],[25,23],[26,23],[27,23],[28,23],[23],[30,23,23],[29,31,23],[23,32]] [(0,[]),(1,[]),(2,[]),(3,[]),(4,[]),(5,[]),(6,[]),(7,[]),(8,[]),(9,[]),(10,[]),(11,[]),(12,[]),(13,[]),(14,[]),(15,[]),(16,[]),(17,[]),(18,[]),(19,[]),(20,[]),(21,[]),(22,[]),(23,[]),(24,[]),(25,[]),(26,[]),(27,[]),(28,[]),(29,[]),(30,[]),(31,[24,25,26,27,28,29]),(32,[]),(33,[])]
abbrev C26_15 := Ro [As 6 (kI 4)]
abbrev C26_16 := Sq [6] C26_15 .ret
abbrev C26_17 := Cd t56 C26_16 .skip
abbrev C26_18 := Sq [56] C26_14 C26_17
abbrev C26_19 := Sq [0,1,2,9] C26_13 C26_18
abbrev C26_20 := Ro [As 6 (kI 0)]
abbrev C26_21 := Sq [6] C26_20 .ret
abbrev C26_22 := Sq [] C26_19 C26_21
abbrev C26_23 := Sq [0,1,2] C26_12 C26_22
abbrev C26_24 := Sq [0,1,2] C26_5 C26_23
abbrev C26_25 := Sq [0,1,2] C26_0 C26_24
abbrev C26 := C26_25
abbrev C26r : List RV := [.t 6]
theorem C26ok : Okf Tryz.prog 26 Tryz.f26 C26 C26r := ⟨Tryz.func26, by kernel_rfl, by kernel_rfl, by kernel_rfl⟩

/-- mimesis/eval.Do -/
abbrev C27_0 := Ro [Br 4 t1,Al 6 [z4,z4,z4,z4,z4,z4,z4,z4,z4,z4,z4,z4,z4,z4,z4,z4,z4,z4,z4,z4,z4,z4,z4,z4,z4,z4,z4,z4,z4,z4,z4,z4,z4,zi,zi,zi],As 7 (kI 0)]
abbrev C27_1 := Ro [Mv 13 t0,Ca 14 59 [t13],As 8 t14]
abbrev C27_2 := Ro [Mv 15 t8,Bn 16 .neq t15 (kI 0)]
abbrev C27_3 := Ro [⟨(some 17),none,.r (.bld [z4,z4,z4,z4,z4,z4,z4,z4,z4,z4,z4,z4,z4,z4,z4,z4,z4,z4,z4,z4,z4,z4,z4,z4,z4,z4,z4,z4,z4,z4,z4,z4,z4,zi,zi,zi] [])⟩,Mv 18 t8,Sxn 36 t6 t17,As 7 t18]
abbrev C27_4 := Sq [6,7] C27_3 .ret
abbrev C27_5 := Cd t16 C27_4 .skip
abbrev C27_6 := Sq [0,2,4,6,8,16] C27_2 C27_5
abbrev C27_7 := Sq [0,2,4,6,8] C27_1 C27_6
abbrev C27_8 := Ro [Mv 19 t2,Ep 20 false t19 kP]
abbrev C27_9 := Ro [⟨(some 21),none,.r (.bld [z4,z4,z4,z4,z4,z4,z4,z4,z4,z4,z4,z4,z4,z4,z4,z4,z4,z4,z4,z4,z4,z4,z4,z4,z4,z4,z4,z4,z4,z4,z4,z4,z4,zi,zi,zi] [])⟩,Sxn 36 t6 t21,As 7 (kI 2)]
abbrev C27_10 := Sq [6,7] C27_9 .ret
abbrev C27_11 := Cd t20 C27_10 .skip
abbrev C27_12 := Sq [0,2,4,6,20] C27_8 C27_11
abbrev C27_13 := Ro [Mv 22 t0,Ld 23 (some 32) t4,Mv 24 t2,⟨(some 25),none,.r (.bld [.nilp,z4,z4,z4,z4,z4,z4,z4,z4,z4,z4,z4,z4,z4,z4,z4,z4,z4,z4,z4,z4,z4,z4,z4,z4,z4,z4,z4,z4,z4,z4,z4,z4,.nilp,.nils] [(0,1,t22),(1,32,t23),(33,1,t24)])⟩,⟨(some 26),none,.e (.box t25)⟩,As 9 t26]
abbrev C27_14 := Ro [Mv 27 t0,Nc 28 t27,Fa 29 1 t28,Ld 30 none t29,Ln 31 t30,Mv 32 (kI 0)]
abbrev C27_15 := Ro [Bn 33 .lss t32 t31]
abbrev C27_16 := Cd t33 .skip (.exit 0)
abbrev C27_17 := Ro [Ix 34 6 t30 t32,Ld 35 (some 6) t34,Al 11 [zi,zi,zi,z4,zi,zi],Sxn 6 t11 t35]
abbrev C27_18 := Ro [Mv 36 t9,Ld 37 (some 6) t11,Ca 38 61 [t36,t37],As 12 t38]
abbrev C27_19 := Ro [Mv 39 t12,Bn 40 .neq t39 (kI (-1))]
abbrev C27_20 := Ro [Mv 41 t9,Mv 42 t12,Ca 43 62 [t41,t42],Sxn 36 t6 t43,As 7 (kI 0)]
abbrev C27_21 := Sq [6,7] C27_20 .ret
abbrev C27_22 := Cd t40 C27_21 .skip
abbrev C27_23 := Sq [0,6,9,12,30,31,32,40] C27_19 C27_22
abbrev C27_24 := Sq [0,6,9,12,30,31,32] C27_18 C27_23
abbrev C27_25 : ACode := .fz 11 C27_24
abbrev C27_26 := Sq [0,6,9,11,30,31,32] C27_17 C27_25
abbrev C27_27 := Bk 1 C27_26
abbrev C27_28 := Ro [Bn 44 .add t32 (kI 1),Mv 32 t44]
abbrev C27_29 := Sq [0,6,9,30,31,32] C27_27 C27_28
abbrev C27_30 := Sq [0,6,9,30,31,32] C27_16 C27_29
abbrev C27_31 := Sq [0,6,9,30,31,32,33] C27_15 C27_30
abbrev C27_32 : ACode := .loop C27_31
abbrev C27_33 := Bk 0 C27_32
abbrev C27_34 := Sq [0,6,9,30,31,32] C27_14 C27_33
abbrev C27_35 := Ro [Mv 45 t9,Mv 46 t0,Nc 47 t46,Fa 48 3 t47,Ld 49 none t48,Ca 50 62 [t45,t49],Sxn 36 t6 t50,As 7 (kI 0)]
abbrev C27_36 := Sq [6,7] C27_35 .ret
abbrev C27_37 := Sq [0,6,9] C27_34 C27_36
abbrev C27_38 := Sq [0,6,9] C27_13 C27_37
abbrev C27_39 := Sq [0,2,4,6] C27_12 C27_38
abbrev C27_40 := Sq [0,2,4,6] C27_7 C27_39
abbrev C27_41 := Sq [0,2,4,6] C27_0 C27_40
abbrev C27 := C27_41
abbrev C27r : List RV := [.c 6 (some 36),.t 7]
theorem C27ok : Okf Tryz.prog 27 Tryz.f27 C27 C27r := ⟨Tryz.func27, by kernel_rfl, by kernel_rfl, by kernel_rfl⟩

/-- (*mimesis/bus.Bus).Ram -/
abbrev C28_0 := Ro [As 2 kP]
abbrev C28_1 := Ro [Mv 3 t0,Ep 4 false t3 kP]
abbrev C28_2 := Ro [As 2 kP]
abbrev C28_3 := Sq [2] C28_2 .ret
abbrev C28_4 := Cd t4 C28_3 .skip
abbrev C28_5 := Sq [0,4] C28_1 C28_4
abbrev C28_6 := Ro [Mv 5 t0,Nc 6 t5,Fa 7 0 t6,Ld 8 none t7,As 2 t8]
abbrev C28_7 := Sq [2] C28_6 .ret
abbrev C28_8 := Sq [0] C28_5 C28_7
abbrev C28_9 := Sq [0] C28_0 C28_8
abbrev C28 := C28_9
abbrev C28r : List RV := [.t 2]
theorem C28ok : Okf Tryz.prog 28 Tryz.f28 C28 C28r := ⟨Tryz.func28, by kernel_rfl, by kernel_rfl, by kernel_rfl⟩

/-- (*mimesis/ram.Ram).Bytes -/
abbrev C29_0 := Ro [As 2 kS]
abbrev C29_1 := Ro [Mv 4 t0,Ep 5 false t4 kP]
abbrev C29_2 := Ro [As 2 kS]
abbrev C29_3 := Sq [2] C29_2 .ret
abbrev C29_4 := Cd t5 C29_3 .skip
abbrev C29_5 := Sq [0,5] C29_1 C29_4
abbrev C29_6 := Ro [Mv 6 t0,Nc 7 t6,Fa 8 0 t7,Ld 9 none t8,Ln 10 t9,⟨(some 11),none,.e (.mks 1 [.int .u8 0] t10 t10)⟩,As 3 t11]
abbrev C29_7 := Ro [Mv 12 t3,Mv 13 t0,Nc 14 t13,Fa 15 0 t14,Ld 16 none t15,⟨(some 17),none,.e (.cpy 1 t12 t16)⟩]
abbrev C29_8 := Ro [Mv 18 t3,As 2 t18]
abbrev C29_9 := Sq [2] C29_8 .ret
abbrev C29_10 := Sq [3] C29_7 C29_9
abbrev C29_11 := Sq [0,3] C29_6 C29_10
abbrev C29_12 := Sq [0] C29_5 C29_11
abbrev C29_13 := Sq [0] C29_0 C29_12
abbrev C29 := C29_13
abbrev C29r : List RV := [.t 2]
theorem C29ok : Okf Tryz.prog 29 Tryz.f29 C29 C29r := ⟨Tryz.func29, by kernel_rfl, by kernel_rfl, by kernel_rfl⟩

/-- slices.Clone[[]mimesis/api.Event,mimesis/api.Event] -/
abbrev C30_0 := Ro [As 2 kS]
abbrev C30_1 := Ro [Mv 3 t0,Nq 4 false t3]
abbrev C30_2 := Ro [As 2 kS]
abbrev C30_3 := Sq [2] C30_2 .ret
abbrev C30_4 := Cd t4 C30_3 .skip
abbrev C30_5 := Sq [0,4] C30_1 C30_4
abbrev C30_6 := Ro [⟨(some 5),none,.e (.bsl 0 [] [])⟩,Mv 6 t0,Ap 7 45 192 t5 t6,As 2 t7]
abbrev C30_7 := Sq [2] C30_6 .ret
abbrev C30_8 := Sq [0] C30_5 C30_7
abbrev C30_9 := Sq [0] C30_0 C30_8
abbrev C30 := C30_9
abbrev C30r : List RV := [.t 2]
theorem C30ok : Okf Tryz.prog 30 Tryz.f30 C30 C30r := ⟨Tryz.func30, by kernel_rfl, by kernel_rfl, by kernel_rfl⟩

/-- (*mimesis/bus.Bus).Console -/
abbrev C31_0 := Ro [As 2 kP]
abbrev C31_1 := Ro [Mv 3 t0,Ep 4 false t3 kP]
abbrev C31_2 := Ro [As 2 kP]
abbrev C31_3 := Sq [2] C31_2 .ret
abbrev C31_4 := Cd t4 C31_3 .skip
abbrev C31_5 := Sq [0,4] C31_1 C31_4
abbrev C31_6 := Ro [Mv 5 t0,Nc 6 t5,Fa 7 1 t6,Ld 8 none t7,As 2 t8]
abbrev C31_7 := Sq [2] C31_6 .ret
abbrev C31_8 := Sq [0] C31_5 C31_7
abbrev C31_9 := Sq [0] C31_0 C31_8
abbrev C31 := C31_9
abbrev C31r : List RV := [.t 2]
theorem C31ok : Okf Tryz.prog 31 Tryz.f31 C31 C31r := ⟨Tryz.func31, by kernel_rfl, by kernel_rfl, by kernel_rfl⟩

/-- (*mimesis/console.Console).Waits -/
abbrev C32_0 := Ro [As 2 kS]
abbrev C32_1 := Ro [Mv 3 t0,Ep 4 false t3 kP]
abbrev C32_2 := Ro [As 2 kS]
abbrev C32_3 := Sq [2] C32_2 .ret
abbrev C32_4 := Cd t4 C32_3 .skip
abbrev C32_5 := Sq [0,4] C32_1 C32_4
abbrev C32_6 := Ro [Mv 5 t0,Nc 6 t5,Fa 7 2 t6,Ld 8 none t7,Ca 9 63 [t8],As 2 t9]
abbrev C32_7 := Sq [2] C32_6 .ret
abbrev C32_8 := Sq [0] C32_5 C32_7
abbrev C32_9 := Sq [0] C32_0 C32_8
abbrev C32 := C32_9
abbrev C32r : List RV := [.t 2]
theorem C32ok : Okf Tryz.prog 32 Tryz.f32 C32 C32r := ⟨Tryz.func32, by kernel_rfl, by kernel_rfl, by kernel_rfl⟩

/-- (*mimesis/console.Console).Out -/
abbrev C33_0 := Ro [As 2 kS]
abbrev C33_1 := Ro [Mv 3 t0,Ep 4 false t3 kP]
abbrev C33_2 := Ro [As 2 kS]
abbrev C33_3 := Sq [2] C33_2 .ret
abbrev C33_4 := Cd t4 C33_3 .skip
abbrev C33_5 := Sq [0,4] C33_1 C33_4
abbrev C33_6 := Ro [Mv 5 t0,Nc 6 t5,Fa 7 4 t6,Ld 8 none t7,Ca 9 64 [t8],As 2 t9]
abbrev C33_7 := Sq [2] C33_6 .ret
abbrev C33_8 := Sq [0] C33_5 C33_7
abbrev C33_9 := Sq [0] C33_0 C33_8
abbrev C33 := C33_9
abbrev C33r : List RV := [.t 2]
theorem C33ok : Okf Tryz.prog 33 Tryz.f33 C33 C33r := ⟨Tryz.func33, by kernel_rfl, by kernel_rfl, by kernel_rfl⟩

/-- (*mimesis/console.Console).Over -/
abbrev C34_0 := Ro [As 2 kF]
abbrev C34_1 := Ro [Mv 3 t0,Ep 4 true t3 kP,Mv 5 t4,Mvt 6 5 t0,Nct 7 5 t6,Fat 8 5 3 t7,Ldt 9 5 none t8,Pk 10 t5 t9 kF,As 2 t10]
abbrev C34_2 := Sq [2] C34_1 .ret
abbrev C34_3 := Sq [0] C34_0 C34_2
abbrev C34 := C34_3
abbrev C34r : List RV := [.t 2]
theorem C34ok : Okf Tryz.prog 34 Tryz.f34 C34 C34r := ⟨Tryz.func34, by kernel_rfl, by kernel_rfl, by kernel_rfl⟩

/-- (*mimesis/console.Console).Came -/
abbrev C35_0 := Ro [As 2 (kI 0)]
abbrev C35_1 := Ro [Mv 3 t0,Ep 4 false t3 kP]
abbrev C35_2 := Ro [As 2 (kI 0)]
abbrev C35_3 := Sq [2] C35_2 .ret
abbrev C35_4 := Cd t4 C35_3 .skip
abbrev C35_5 := Sq [0,4] C35_1 C35_4
abbrev C35_6 := Ro [Mv 5 t0,Nc 6 t5,Fa 7 1 t6,Ld 8 none t7,As 2 t8]
abbrev C35_7 := Sq [2] C35_6 .ret
abbrev C35_8 := Sq [0] C35_5 C35_7
abbrev C35_9 := Sq [0] C35_0 C35_8
abbrev C35 := C35_9
abbrev C35r : List RV := [.t 2]
theorem C35ok : Okf Tryz.prog 35 Tryz.f35 C35 C35r := ⟨Tryz.func35, by kernel_rfl, by kernel_rfl, by kernel_rfl⟩

/-- (*mimesis/bus.Bus).Off -/
abbrev C36_0 := Ro [As 2 (kU 0),As 3 kF]
abbrev C36_1 := Ro [Mv 4 t0,Ep 5 false t4 kP]
abbrev C36_2 := Ro [As 2 (kU 0),As 3 kF]
abbrev C36_3 := Sq [2,3] C36_2 .ret
abbrev C36_4 := Cd t5 C36_3 .skip
abbrev C36_5 := Sq [0,5] C36_1 C36_4
abbrev C36_6 := Dr [Mv 6 t0,Nc 7 t6,Fa 8 4 t7,Ld 9 none t8,Mv 10 t0,Nc 11 t10,Fa 12 3 t11,Ld 13 none t12,As 2 t9,As 3 t13] [[],[0],[1],[2],[],[4],[5],[6],[3,0,1,2,3],[7,8,0,1,2,3,4,5,6,7,8]] [(0,[]),(1,[]),(2,[]),(3,[]),(4,[]),(5,[]),(6,[]),(7,[]),(8,[4,5,6,7]),(9,[])]
abbrev C36_7 := Sq [2,3] C36_6 .ret
abbrev C36_8 := Sq [0] C36_5 C36_7
abbrev C36_9 := Sq [0] C36_0 C36_8
abbrev C36 := C36_9
abbrev C36r : List RV := [.t 2,.t 3]
theorem C36ok : Okf Tryz.prog 36 Tryz.f36 C36 C36r := ⟨Tryz.func36, by kernel_rfl, by kernel_rfl, by kernel_rfl⟩
end Go.Ab
end
section
/- The code of some functions, with what their types tell written out; each is what the translation gives (kernel_rfl). Printed by mk.py out of the translation. -/
namespace Go.Ab
open Go.Proofs Go.Sc
set_option maxRecDepth 100000
/-- mimesis/mimesisref23.op -/
abbrev C37_0 := Ro [Br 2 t0,As 4 kF]
abbrev C37_1 := Ro [Fa 8 1 t2,Ld 9 none t8,Mv 10 t1,Ix 11 6 t9 t10,Ld 12 (some 6) t11,Al 5 [zi,zi,zi,z4,zi,zi],Sxn 6 t5 t12]
abbrev C37_2 := Ro [Fa 13 3 t5,Ld 14 none t13,Cv 15 .i64 t14,As 6 t15]
abbrev C37_3 := Ro [Fa 16 4 t5,Ld 17 none t16,Bn 18 .eql t17 (kI 0),Mv 19 t18,Fat 20 19 5 t5,Ldt 21 19 none t20,Bnt 22 19 .eql t21 (kI 0),Pk 23 t19 t22 kF,As 7 t23]
abbrev C37_4 := Ro [Fa 24 0 t5,Ld 25 none t24]
abbrev C37_5 := Ro [Bn 27 .eql t25 (kI 1),As 26 t27]
abbrev C37_6 := Ro [Mv 28 t6,Bn 29 .geq t28 (kI 1),Mv 30 t29,Mvt 31 30 t6,Bnt 32 30 .leq t31 (kI 31),Pk 33 t30 t32 kF,Mv 34 t33,Mvt 35 34 t7,Pk 36 t34 t35 kF,Mv 37 t36,Fat 38 37 1 t5,Ldt 39 37 none t38,Bnt 40 37 .eql t39 (kI 0),Pk 41 t37 t40 kF,Mv 42 t41,Fat 43 42 2 t5,Ldt 44 42 none t43,Bnt 45 42 .eql t44 (kI 0),Pk 46 t42 t45 kF,As 4 t46]
abbrev C37_7 := Sq [4] C37_6 .ret
abbrev C37_8 := Ro [Bn 48 .eql t25 (kI 2),As 47 t48]
abbrev C37_9 := Ro [Mv 49 t7,Mv 50 t49,Fat 51 50 1 t5,Ldt 52 50 none t51,Bnt 53 50 .eql t52 (kI 0),Pk 54 t50 t53 kF,Mv 55 t54,Fat 56 55 2 t5,Ldt 57 55 none t56,Bnt 58 55 .eql t57 (kI 0),Pk 59 t55 t58 kF,As 4 t59]
abbrev C37_10 := Sq [4] C37_9 .ret
abbrev C37_11 := Ro [Bn 61 .eql t25 (kI 3),As 60 t61]
abbrev C37_12 := Ro [Mv 62 t6,Ca 63 65 [t62],Mv 64 t63,Mvt 65 64 t7,Pk 66 t64 t65 kF,Mv 67 t66,Ldt 68 67 (some 4) t2,Fat 69 67 1 t5,Ldt 70 67 none t69,Mvt 71 67 t1,Cat 72 67 66 [t68,t70,t71],Pk 73 t67 t72 kF,Mv 74 t73,Ldt 75 74 (some 4) t2,Fat 76 74 2 t5,Ldt 77 74 none t76,Mvt 78 74 t1,Cat 79 74 66 [t75,t77,t78],Pk 80 t74 t79 kF,As 4 t80]
abbrev C37_13 := Sq [4] C37_12 .ret
abbrev C37_14 := Ro [Bn 82 .eql t25 (kI 4),As 81 t82]
abbrev C37_15 := Ro [Mv 83 t6,Ca 84 67 [t83],Bn 85 .gtr t84 (kI 0),Mv 86 t85,Fat 87 86 5 t5,Ldt 88 86 none t87,Bnt 89 86 .eql t88 (kI 0),Pk 90 t86 t89 kF,Mv 91 t90,Fat 92 91 2 t5,Ldt 93 91 none t92,Bnt 94 91 .eql t93 (kI 0),Pk 95 t91 t94 kF,Mv 96 t95,Ldt 97 96 (some 4) t2,Fat 98 96 1 t5,Ldt 99 96 none t98,Mvt 100 96 t1,Cat 101 96 66 [t97,t99,t100],Pk 102 t96 t101 kF,Mv 103 t102,Ldt 104 103 (some 4) t2,Fat 105 103 4 t5,Ldt 106 103 none t105,Mvt 107 103 t1,Cat 108 103 39 [t104,t106,t107],Pk 109 t103 t108 kF,As 4 t109]
abbrev C37_16 := Sq [4] C37_15 .ret
abbrev C37_17 := Ro [Bn 111 .eql t25 (kI 5),As 110 t111]
abbrev C37_18 := Ro [Mv 112 t6,Ca 113 68 [t112],Bn 114 .gtr t113 (kI 0),Mv 115 t114,Ldt 116 115 (some 4) t2,Fat 117 115 1 t5,Ldt 118 115 none t117,Mvt 119 115 t1,Cat 120 115 66 [t116,t118,t119],Pk 121 t115 t120 kF,Mv 122 t121,Ldt 123 122 (some 4) t2,Fat 124 122 2 t5,Ldt 125 122 none t124,Mvt 126 122 t1,Cat 127 122 66 [t123,t125,t126],Pk 128 t122 t127 kF,Mv 129 t128,Ldt 130 129 (some 4) t2,Fat 131 129 4 t5,Ldt 132 129 none t131,Mvt 133 129 t1,Cat 134 129 39 [t130,t132,t133],Pk 135 t129 t134 kF,Mv 136 t135,Ldt 137 136 (some 4) t2,Fat 138 136 5 t5,Ldt 139 136 none t138,Mvt 140 136 t1,Cat 141 136 39 [t137,t139,t140],Pk 142 t136 t141 kF,As 4 t142]
abbrev C37_19 := Sq [4] C37_18 .ret
abbrev C37_20 := Ro [Bn 144 .eql t25 (kI 6),As 143 t144]
abbrev C37_21 := Ro [Mv 145 t6,Bn 146 .geq t145 (kI 5),Mv 147 t146,Mvt 148 147 t6,Bnt 149 147 .leq t148 (kI 10),Pk 150 t147 t149 kF,Mv 151 t150,Fat 152 151 5 t5,Ldt 153 151 none t152,Bnt 154 151 .eql t153 (kI 0),Pk 155 t151 t154 kF,Mv 156 t155,Ldt 157 156 (some 4) t2,Fat 158 156 1 t5,Ldt 159 156 none t158,Mvt 160 156 t1,Cat 161 156 66 [t157,t159,t160],Pk 162 t156 t161 kF,Mv 163 t162,Ldt 164 163 (some 4) t2,Fat 165 163 2 t5,Ldt 166 163 none t165,Mvt 167 163 t1,Cat 168 163 66 [t164,t166,t167],Pk 169 t163 t168 kF,Mv 170 t169,Ldt 171 170 (some 4) t2,Fat 172 170 4 t5,Ldt 173 170 none t172,Mvt 174 170 t1,Cat 175 170 39 [t171,t173,t174],Pk 176 t170 t175 kF,As 4 t176]
abbrev C37_22 := Sq [4] C37_21 .ret
abbrev C37_23 := Cd t143 C37_22 .skip
abbrev C37_24 := Sq [1,2,5,6,143] C37_20 C37_23
abbrev C37_25 := Cd t110 C37_19 C37_24
abbrev C37_26 := Sq [1,2,5,6,25,110] C37_17 C37_25
abbrev C37_27 := Cd t81 C37_16 C37_26
abbrev C37_28 := Sq [1,2,5,6,25,81] C37_14 C37_27
abbrev C37_29 := Cd t60 C37_13 C37_28
abbrev C37_30 := Sq [1,2,5,6,7,25,60] C37_11 C37_29
abbrev C37_31 := Cd t47 C37_10 C37_30
abbrev C37_32 := Sq [1,2,5,6,7,25,47] C37_8 C37_31
abbrev C37_33 := Cd t26 C37_7 C37_32
abbrev C37_34 := Sq [1,2,5,6,7,25,26] C37_5 C37_33
abbrev C37_35 := Bk 0 C37_34
abbrev C37_36 := Sq [1,2,5,6,7,25] C37_4 C37_35
abbrev C37_37 := Ro [As 4 kF]
abbrev C37_38 := Sq [4] C37_37 .ret
abbrev C37_39 := Sq [] C37_36 C37_38
abbrev C37_40 := Sq [1,2,5,6,7] C37_3 C37_39
abbrev C37_41 := Sq [1,2,5,6] C37_2 C37_40
abbrev C37_42 : ACode := .fz 5 C37_41
abbrev C37_43 := Sq [1,2,5] C37_1 C37_42
abbrev C37_44 := Sq [1,2] C37_0 C37_43
abbrev C37 := C37_44
abbrev C37r : List RV := [.t 4]
theorem C37ok : Okf Tryz.prog 37 Tryz.f37 C37 C37r := ⟨Tryz.func37, by kernel_rfl, by kernel_rfl, by kernel_rfl⟩

/-- mimesis/mimesisref23.leaves -/
abbrev C38_0 := Ro [Br 2 t0,As 4 kF]
abbrev C38_1 := Ro [Fa 7 2 t2,Ld 8 none t7,Mv 9 t1,Ix 10 5 t8 t9,Ld 11 (some 5) t10,Al 5 [zi,z4,zi,zi,.nils],Sxn 5 t5 t11]
abbrev C38_2 := Ro [Ld 12 (some 4) t2,Mv 13 t1,Fa 14 1 t2,Ld 15 none t14,Ln 16 t15,Ca 17 39 [t12,t13,t16],Un 18 .not t17,Mv 19 t18,Faf 20 19 0 t5,Ldf 21 19 none t20,Bnf 22 19 .lss t21 (kI 0),Pk 23 t19 kT t22,Mv 24 t23,Faf 25 24 0 t5,Ldf 26 24 none t25,Faf 27 24 0 t2,Ldf 28 24 none t27,Lnf 29 24 t28,Bnf 30 24 .gtr t26 t29,Pk 31 t24 kT t30,Mv 32 t31,Faf 33 32 1 t5,Ldf 34 32 none t33,Bnf 35 32 .rem t34 (kU 4),Bnf 36 32 .neq t35 (kU 0),Pk 37 t32 kT t36,Mv 38 t37,Faf 39 38 3 t5,Ldf 40 38 none t39,Bnf 41 38 .lss t40 (kI 1),Pk 42 t38 kT t41,Mv 43 t42,Faf 44 43 3 t5,Ldf 45 43 none t44,Bnf 46 43 .gtr t45 (kI 4),Pk 47 t43 kT t46]
abbrev C38_3 := Ro [As 4 kF]
abbrev C38_4 := Sq [4] C38_3 .ret
abbrev C38_5 := Cd t47 C38_4 .skip
abbrev C38_6 := Sq [5,47] C38_2 C38_5
abbrev C38_7 := Ro [As 6 (kI 0)]
abbrev C38_8 := Ro [Mv 48 t6,Fa 49 4 t5,Ld 50 none t49,Ln 51 t50,Bn 52 .lss t48 t51]
abbrev C38_9 := Cd t52 .skip (.exit 0)
abbrev C38_10 := Sq [5,6,52] C38_8 C38_9
abbrev C38_11 := Dr [Fa 55 4 t5,Ld 56 none t55,Mv 57 t6,Ix 58 2 t56 t57,Fa 59 0 t58,Ld 60 none t59,Bn 61 .lss t60 (kI 1),Mv 62 t61,Faf 63 62 4 t5,Ldf 64 62 none t63,Mvf 65 62 t6,Ixf 66 62 2 t64 t65,Faf 67 62 0 t66,Ldf 68 62 none t67,Bnf 69 62 .gtr t68 (kI 31),Pk 70 t62 kT t69,Mv 71 t70,Mvf 72 71 t6,Bnf 73 71 .gtr t72 (kI 0),Mvf 74 71 t73,Fat 75 74 4 t5,Ldt 76 74 none t75,Mvt 77 74 t6,Ixt 78 74 2 t76 t77,Fat 79 74 0 t78,Ldt 80 74 none t79,Fat 81 74 4 t5,Ldt 82 74 none t81,Mvt 83 74 t6,Bnt 84 74 .sub t83 (kI 1),Ixt 85 74 2 t82 t84,Fat 86 74 0 t85,Ldt 87 74 none t86,Bnt 88 74 .leq t80 t87,Pkf 89 71 t74 t88 kF,Pk 90 t71 kT t89] [[],[0],[],[1,2],[3],[4],[5],[6],[7],[8,7],[7],[9,10,7],[11,7],[12,7],[13,7],[7,14],[15,7],[16],[17,16],[18,16,16],[19],[20,19],[19],[21,22,19],[23,19],[24,19],[19],[26,19],[19],[28,19],[27,29,19],[30,19],[31,19],[25,32,19],[19,33,16],[16,34]] [(0,[]),(1,[]),(2,[]),(3,[]),(4,[]),(5,[]),(6,[]),(7,[]),(8,[]),(9,[]),(10,[]),(11,[]),(12,[]),(13,[]),(14,[]),(15,[]),(16,[]),(17,[]),(18,[]),(19,[]),(20,[]),(21,[]),(22,[]),(23,[]),(24,[]),(25,[]),(26,[]),(27,[]),(28,[]),(29,[]),(30,[]),(31,[]),(32,[]),(33,[]),(34,[]),(35,[])]
abbrev C38_12 := Ro [As 4 kF]
abbrev C38_13 := Sq [4] C38_12 .ret
abbrev C38_14 := Cd t90 C38_13 .skip
abbrev C38_15 := Sq [5,6,90] C38_11 C38_14
abbrev C38_16 := Bk 1 C38_15
abbrev C38_17 := Ro [Mv 53 t6,Bn 54 .add t53 (kI 1),As 6 t54]
abbrev C38_18 := Sq [5,6] C38_16 C38_17
abbrev C38_19 := Sq [5,6] C38_10 C38_18
abbrev C38_20 : ACode := .loop C38_19
abbrev C38_21 := Bk 0 C38_20
abbrev C38_22 := Sq [5,6] C38_7 C38_21
abbrev C38_23 := Ro [As 4 kT]
abbrev C38_24 := Sq [4] C38_23 .ret
abbrev C38_25 := Sq [] C38_22 C38_24
abbrev C38_26 := Sq [5] C38_6 C38_25
abbrev C38_27 : ACode := .fz 5 C38_26
abbrev C38_28 := Sq [1,2,5] C38_1 C38_27
abbrev C38_29 := Sq [1,2] C38_0 C38_28
abbrev C38 := C38_29
abbrev C38r : List RV := [.t 4]
theorem C38ok : Okf Tryz.prog 38 Tryz.f38 C38 C38r := ⟨Tryz.func38, by kernel_rfl, by kernel_rfl, by kernel_rfl⟩

/-- mimesis/mimesisref23.exit -/
abbrev C39_0 := Ro [Br 3 t0,As 6 kF]
abbrev C39_1 := Ro [Mv 9 t1,Bn 10 .lss t9 (kI 0),Mv 11 t10,Mvf 12 11 t1,Faf 13 11 2 t3,Ldf 14 11 none t13,Lnf 15 11 t14,Bnf 16 11 .geq t12 t15,Pk 17 t11 kT t16]
abbrev C39_2 := Ro [As 6 kF]
abbrev C39_3 := Sq [6] C39_2 .ret
abbrev C39_4 := Cd t17 C39_3 .skip
abbrev C39_5 := Sq [1,2,3,17] C39_1 C39_4
abbrev C39_6 := Ro [Fa 18 2 t3,Ld 19 none t18,Mv 20 t1,Ix 21 5 t19 t20,Ld 22 (some 5) t21,Al 7 [zi,z4,zi,zi,.nils],Sxn 5 t7 t22]
abbrev C39_7 := Ro [As 8 (kI 0)]
abbrev C39_8 := Ro [Mv 23 t8,Fa 24 4 t7,Ld 25 none t24,Ln 26 t25,Bn 27 .lss t23 t26]
abbrev C39_9 := Cd t27 .skip (.exit 0)
abbrev C39_10 := Sq [2,3,7,8,27] C39_8 C39_9
abbrev C39_11 := Dr [Ld 30 (some 4) t3,Fa 31 4 t7,Ld 32 none t31,Mv 33 t8,Ix 34 2 t32 t33,Fa 35 1 t34,Ld 36 none t35,Mv 37 t2,Ca 38 66 [t30,t36,t37],Un 39 .not t38] [[],[],[1],[],[2,3],[4],[5],[],[0,6,7],[8]] [(0,[]),(1,[]),(2,[]),(3,[]),(4,[]),(5,[]),(6,[]),(7,[]),(8,[]),(9,[])]
abbrev C39_12 := Ro [As 6 kF]
abbrev C39_13 := Sq [6] C39_12 .ret
abbrev C39_14 := Cd t39 C39_13 .skip
abbrev C39_15 := Sq [2,3,7,8,39] C39_11 C39_14
abbrev C39_16 := Bk 1 C39_15
abbrev C39_17 := Ro [Mv 28 t8,Bn 29 .add t28 (kI 1),As 8 t29]
abbrev C39_18 := Sq [2,3,7,8] C39_16 C39_17
abbrev C39_19 := Sq [2,3,7,8] C39_10 C39_18
abbrev C39_20 : ACode := .loop C39_19
abbrev C39_21 := Bk 0 C39_20
abbrev C39_22 := Sq [2,3,7,8] C39_7 C39_21
abbrev C39_23 := Ro [Fa 40 2 t7,Ld 41 none t40,Bn 42 .eql t41 (kI (-1)),Mv 43 t42,Ldf 44 43 (some 4) t3,Faf 45 43 2 t7,Ldf 46 43 none t45,Mvf 47 43 t2,Caf 48 43 66 [t44,t46,t47],Pk 49 t43 kT t48,As 6 t49]
abbrev C39_24 := Sq [6] C39_23 .ret
abbrev C39_25 := Sq [2,3,7] C39_22 C39_24
abbrev C39_26 : ACode := .fz 7 C39_25
abbrev C39_27 := Sq [2,3,7] C39_6 C39_26
abbrev C39_28 := Sq [1,2,3] C39_5 C39_27
abbrev C39_29 := Sq [1,2,3] C39_0 C39_28
abbrev C39 := C39_29
abbrev C39r : List RV := [.t 6]
theorem C39ok : Okf Tryz.prog 39 Tryz.f39 C39 C39r := ⟨Tryz.func39, by kernel_rfl, by kernel_rfl, by kernel_rfl⟩

/-- mimesis/mimesisref01.SameBytes -/
abbrev C40_0 := Ro [As 4 kF]
abbrev C40_1 := Ro [Mv 6 t0,Ln 7 t6,Mv 8 t1,Ln 9 t8,Bn 10 .neq t7 t9]
abbrev C40_2 := Ro [As 4 kF]
abbrev C40_3 := Sq [4] C40_2 .ret
abbrev C40_4 := Cd t10 C40_3 .skip
abbrev C40_5 := Sq [0,1,10] C40_1 C40_4
abbrev C40_6 := Ro [As 5 (kI 0)]
abbrev C40_7 := Ro [Mv 11 t5,Mv 12 t0,Ln 13 t12,Bn 14 .lss t11 t13]
abbrev C40_8 := Cd t14 .skip (.exit 0)
abbrev C40_9 := Sq [0,1,5,14] C40_7 C40_8
abbrev C40_10 := Dr [Mv 17 t0,Mv 18 t5,Ix 19 1 t17 t18,Ld 20 none t19,Mv 21 t1,Mv 22 t5,Ix 23 1 t21 t22,Ld 24 none t23,Bn 25 .neq t20 t24] [[],[],[0,1],[2],[],[],[4,5],[6],[3,7]] [(0,[]),(1,[]),(2,[]),(3,[]),(4,[]),(5,[]),(6,[]),(7,[]),(8,[])]
abbrev C40_11 := Ro [As 4 kF]
abbrev C40_12 := Sq [4] C40_11 .ret
abbrev C40_13 := Cd t25 C40_12 .skip
abbrev C40_14 := Sq [0,1,5,25] C40_10 C40_13
abbrev C40_15 := Bk 1 C40_14
abbrev C40_16 := Ro [Mv 15 t5,Bn 16 .add t15 (kI 1),As 5 t16]
abbrev C40_17 := Sq [0,1,5] C40_15 C40_16
abbrev C40_18 := Sq [0,1,5] C40_9 C40_17
abbrev C40_19 : ACode := .loop C40_18
abbrev C40_20 := Bk 0 C40_19
abbrev C40_21 := Sq [0,1,5] C40_6 C40_20
abbrev C40_22 := Ro [As 4 kT]
abbrev C40_23 := Sq [4] C40_22 .ret
abbrev C40_24 := Sq [] C40_21 C40_23
abbrev C40_25 := Sq [0,1] C40_5 C40_24
abbrev C40_26 := Sq [0,1] C40_0 C40_25
abbrev C40 := C40_26
abbrev C40r : List RV := [.t 4]
theorem C40ok : Okf Tryz.prog 40 Tryz.f40 C40 C40r := ⟨Tryz.func40, by kernel_rfl, by kernel_rfl, by kernel_rfl⟩

/-- mimesis/mimesisref18.SameEvents -/
abbrev C41_0 := Ro [As 4 kF]
abbrev C41_1 := Ro [Mv 6 t0,Ln 7 t6,Mv 8 t1,Ln 9 t8,Bn 10 .neq t7 t9]
abbrev C41_2 := Ro [As 4 kF]
abbrev C41_3 := Sq [4] C41_2 .ret
abbrev C41_4 := Cd t10 C41_3 .skip
abbrev C41_5 := Sq [0,1,10] C41_1 C41_4
abbrev C41_6 := Ro [As 5 (kI 0)]
abbrev C41_7 := Ro [Mv 11 t5,Mv 12 t0,Ln 13 t12,Bn 14 .lss t11 t13]
abbrev C41_8 := Cd t14 .skip (.exit 0)
abbrev C41_9 := Sq [0,1,5,14] C41_7 C41_8
abbrev C41_10 := Dr [Mv 17 t0,Mv 18 t5,Ix 19 45 t17 t18,Ld 20 (some 45) t19,Mv 21 t1,Mv 22 t5,Ix 23 45 t21 t22,Ld 24 (some 45) t23,⟨(some 25),none,.r (.eqa true [.i,.i,.i,.i,.i,.i,.i,.i,.i,.i,.i,.i,.i,.i,.i,.i,.i,.i,.i,.i,.i,.i,.i,.i,.i,.i,.i,.i,.i,.i,.i,.i,.i,.i,.i,.i,.i,.i,.i,.i,.i,.i,.i,.i,.i] t20 t24)⟩] [[],[],[0,1],[2],[],[],[4,5],[6],[3,7]] [(0,[]),(1,[]),(2,[]),(3,[]),(4,[]),(5,[]),(6,[]),(7,[]),(8,[])]
abbrev C41_11 := Ro [As 4 kF]
abbrev C41_12 := Sq [4] C41_11 .ret
abbrev C41_13 := Cd t25 C41_12 .skip
abbrev C41_14 := Sq [0,1,5,25] C41_10 C41_13
abbrev C41_15 := Bk 1 C41_14
abbrev C41_16 := Ro [Mv 15 t5,Bn 16 .add t15 (kI 1),As 5 t16]
abbrev C41_17 := Sq [0,1,5] C41_15 C41_16
abbrev C41_18 := Sq [0,1,5] C41_9 C41_17
abbrev C41_19 : ACode := .loop C41_18
abbrev C41_20 := Bk 0 C41_19
abbrev C41_21 := Sq [0,1,5] C41_6 C41_20
abbrev C41_22 := Ro [As 4 kT]
abbrev C41_23 := Sq [4] C41_22 .ret
abbrev C41_24 := Sq [] C41_21 C41_23
abbrev C41_25 := Sq [0,1] C41_5 C41_24
abbrev C41_26 := Sq [0,1] C41_0 C41_25
abbrev C41 := C41_26
abbrev C41r : List RV := [.t 4]
theorem C41ok : Okf Tryz.prog 41 Tryz.f41 C41 C41r := ⟨Tryz.func41, by kernel_rfl, by kernel_rfl, by kernel_rfl⟩

/-- mimesis/mimesisref25.Quiet -/
abbrev C42_0 := Ro [Br 2 t0,As 4 kF]
abbrev C42_1 := Ro [As 5 (kI 0)]
abbrev C42_2 := Ro [Mv 8 t5,Mv 9 t1,Bn 10 .lss t8 t9]
abbrev C42_3 := Cd t10 .skip (.exit 0)
abbrev C42_4 := Sq [1,2,5,10] C42_2 C42_3
abbrev C42_5 := Dr [Fa 14 33 t2,Fa 15 0 t14,Ld 16 (some 7) t15,Ld 17 (some 56) t2,Fa 18 42 t2,Ld 19 none t18,Mv 20 t5,Cv 21 .u64 t20,Bn 22 .add t19 t21,Ca 23 70 [t17,t22],Ca 24 69 [t16,t23],Mv 13 t24,Ex 25 0 t13,Ex 26 1 t13,As 6 t25,As 7 t26] [[],[0],[1],[],[],[4],[],[6],[5,7],[3,8],[2,9,9],[10],[11],[11],[12,10,0,1,2,3,4,5,6,7,8,9,10,11,12],[13,14,0,1,2,3,4,5,6,7,8,9,10,11,12,13,14]] [(0,[]),(1,[]),(2,[]),(3,[]),(4,[]),(5,[]),(6,[]),(7,[]),(8,[]),(9,[0,1,2]),(10,[]),(11,[]),(12,[]),(13,[]),(14,[13]),(15,[])]
abbrev C42_6 := Ro [Mv 27 t7]
abbrev C42_7 := Ro [As 4 kF]
abbrev C42_8 := Sq [4] C42_7 .ret
abbrev C42_9 := Cd t27 C42_8 .skip
abbrev C42_10 := Sq [1,2,5,27] C42_6 C42_9
abbrev C42_11 := Sq [1,2,5,7] C42_5 C42_10
abbrev C42_12 := Bk 1 C42_11
abbrev C42_13 := Ro [Mv 11 t5,Bn 12 .add t11 (kI 1),As 5 t12]
abbrev C42_14 := Sq [1,2,5] C42_12 C42_13
abbrev C42_15 := Sq [1,2,5] C42_4 C42_14
abbrev C42_16 : ACode := .loop C42_15
abbrev C42_17 := Bk 0 C42_16
abbrev C42_18 := Sq [1,2,5] C42_1 C42_17
abbrev C42_19 := Ro [As 4 kT]
abbrev C42_20 := Sq [4] C42_19 .ret
abbrev C42_21 := Sq [] C42_18 C42_20
abbrev C42_22 := Sq [1,2] C42_0 C42_21
abbrev C42 := C42_22
abbrev C42r : List RV := [.t 4]
theorem C42ok : Okf Tryz.prog 42 Tryz.f42 C42 C42r := ⟨Tryz.func42, by kernel_rfl, by kernel_rfl, by kernel_rfl⟩

/-- mimesis/mimesisref24.Do -/
abbrev C43_0 := Ro [Br 3 t0,Br 4 t1,⟨(some 5),none,.e (.box t2)⟩,Al 6 [z4,z4,z4,z4,z4,z4,z4,z4,z4,z4,z4,z4,z4,z4,z4,z4,z4,z4,z4,z4,z4,z4,z4,z4,z4,z4,z4,z4,z4,z4,z4,z4,z4,zi,zi,zi,.nils,.nils,.nils]]
abbrev C43_1 := Ro [⟨(some 16),none,.e (.bsl 0 [] [])⟩,As 7 t16]
abbrev C43_2 := Ro [As 8 (kI 0)]
abbrev C43_3 := Ro [Mv 17 t8,Fa 18 1 t3,Ld 19 none t18,Ln 20 t19,Bn 21 .lss t17 t20]
abbrev C43_4 := Cd t21 .skip (.exit 0)
abbrev C43_5 := Sq [3,4,5,6,7,8,21] C43_3 C43_4
abbrev C43_6 := Ro [Fa 24 1 t3,Ld 25 none t24,Mv 26 t8,Ix 27 6 t25 t26,Ld 28 (some 6) t27,Al 9 [zi,zi,zi,z4,zi,zi],Sxn 6 t9 t28]
abbrev C43_7 := Ro [As 10 (kU 0)]
abbrev C43_8 := Ro [Fa 29 3 t9,Ld 30 none t29,Cv 31 .i64 t30,As 11 t31]
abbrev C43_9 := Ro [Fa 32 0 t9,Ld 33 none t32]
abbrev C43_10 := Ro [Bn 35 .eql t33 (kI 1),As 34 t35]
abbrev C43_11 := Ro [Fa 36 3 t9,Ld 37 none t36,⟨(some 38),none,.r (.ixa 32 1 t4 t37)⟩,Ld 39 none t38,As 10 t39]
abbrev C43_12 := Ro [Bn 41 .eql t33 (kI 2),As 40 t41]
abbrev C43_13 := Ro [Fa 42 3 t9,Ld 43 none t42,As 10 t43]
abbrev C43_14 := Ro [Bn 45 .eql t33 (kI 3),As 44 t45]
abbrev C43_15 := Dr [Mv 46 t11,Mv 47 t7,Fa 48 1 t9,Ld 49 none t48,Ix 50 1 t47 t49,Ld 51 none t50,Mv 52 t7,Fa 53 2 t9,Ld 54 none t53,Ix 55 1 t52 t54,Ld 56 none t55,Ca 57 71 [t46,t51,t56],As 10 t57] [[],[],[],[2],[1,3],[4],[],[],[7],[6,8],[9],[0,5,10],[11,11,0,1,2,3,4,5,6,7,8,9,10,11]] [(0,[]),(1,[]),(2,[]),(3,[]),(4,[]),(5,[]),(6,[]),(7,[]),(8,[]),(9,[]),(10,[]),(11,[]),(12,[])]
abbrev C43_16 := Ro [Bn 59 .eql t33 (kI 4),As 58 t59]
abbrev C43_17 := Ro [Mv 60 t11,Ca 61 67 [t60],As 12 t61]
abbrev C43_18 := Dr [Fa 62 0 t5,Ld 63 none t62,Mv 64 t7,Fa 65 1 t9,Ld 66 none t65,Ix 67 1 t64 t66,Ld 68 none t67,Mv 69 t12,Ca 70 72 [t63,t68,t69],Bn 71 .neq t70 (kI 0)] [[],[0],[],[],[3],[2,4],[5],[],[1,6,7],[8]] [(0,[]),(1,[]),(2,[]),(3,[]),(4,[]),(5,[]),(6,[]),(7,[]),(8,[]),(9,[])]
abbrev C43_19 := Ro [Ld 72 (some 4) t3,Fa 73 4 t9,Ld 74 none t73,Ld 75 (some 32) t4,Mv 76 t7,Ld 77 (some 3) t5,Ca 78 73 [t72,t74,t75,t76,t77],Sxn 39 t6 t78]
abbrev C43_20 := Sq [6] C43_19 .ret
abbrev C43_21 := Cd t71 C43_20 .skip
abbrev C43_22 := Sq [3,4,5,6,7,8,9,11,12,71] C43_18 C43_21
abbrev C43_23 := Dr [Fa 79 0 t5,Ld 80 none t79,Mv 81 t7,Fa 82 1 t9,Ld 83 none t82,Ix 84 1 t81 t83,Ld 85 none t84,Mv 86 t12,Ca 87 74 [t80,t85,t86],As 10 t87] [[],[0],[],[],[3],[2,4],[5],[],[1,6,7],[8,8,0,1,2,3,4,5,6,7,8]] [(0,[]),(1,[]),(2,[]),(3,[]),(4,[]),(5,[]),(6,[]),(7,[]),(8,[]),(9,[])]
abbrev C43_24 := Ro [Mv 88 t11,Bn 89 .eql t88 (kI 11),Mv 90 t89,Mvf 91 90 t11,Bnf 92 90 .eql t91 (kI 12),Pk 93 t90 kT t92]
abbrev C43_25 := Ro [Mv 94 t10,Mv 95 t12,Bn 96 .mul (kI 8) t95,Ca 97 75 [t94,t96],As 10 t97]
abbrev C43_26 := Cd t93 C43_25 .skip
abbrev C43_27 := Sq [3,4,5,6,7,8,10,12,93] C43_24 C43_26
abbrev C43_28 := Sq [3,4,5,6,7,8,10,11,12] C43_23 C43_27
abbrev C43_29 := Sq [3,4,5,6,7,8,9,11,12] C43_22 C43_28
abbrev C43_30 := Sq [3,4,5,6,7,8,9,11,12] C43_17 C43_29
abbrev C43_31 := Ro [Bn 99 .eql t33 (kI 5),As 98 t99]
abbrev C43_32 := Ro [Mv 100 t11,Ca 101 68 [t100],As 13 t101]
abbrev C43_33 := Dr [Fa 102 0 t5,Ld 103 none t102,Mv 104 t7,Fa 105 1 t9,Ld 106 none t105,Ix 107 1 t104 t106,Ld 108 none t107,Mv 109 t13,Ca 110 72 [t103,t108,t109],Bn 111 .neq t110 (kI 0)] [[],[0],[],[],[3],[2,4],[5],[],[1,6,7],[8]] [(0,[]),(1,[]),(2,[]),(3,[]),(4,[]),(5,[]),(6,[]),(7,[]),(8,[]),(9,[])]
abbrev C43_34 := Ro [Ld 112 (some 4) t3,Fa 113 4 t9,Ld 114 none t113,Ld 115 (some 32) t4,Mv 116 t7,Ld 117 (some 3) t5,Ca 118 73 [t112,t114,t115,t116,t117],Sxn 39 t6 t118]
abbrev C43_35 := Sq [6] C43_34 .ret
abbrev C43_36 := Cd t111 C43_35 .skip
abbrev C43_37 := Sq [3,4,5,6,7,8,9,10,13,111] C43_33 C43_36
abbrev C43_38 : ACode := .dregt [Ld 120 (some 3) t5,Mv 121 t7,Fa 122 1 t9,Ld 123 none t122,Ix 124 1 t121 t123,Ld 125 none t124,Mv 126 t13,Mv 127 t7,Fa 128 2 t9,Ld 129 none t128,Ix 130 1 t127 t129,Ld 131 none t130,Ca 132 76 [t120,t125,t126,t131],Mv 119 t132,Ex 133 0 t119,Ex 134 1 t119,Al 14 [.nils,.nils,.nils],Sxn 3 t14 t133,As 15 t134] [[],[],[],[2],[1,3],[4],[],[],[],[8],[7,9],[10],[0,5,6,11],[12],[13],[13],[],[16,14,12,0,1,2,3,4,5,6,7,8,9,10,11,12,13,14,16],[15,17,0,1,2,3,4,5,6,7,8,9,10,11,12,13,14,15,16,17]] (.r 0 (.r 1 (.r 2 (.r 3 (.r 4 (.r 5 (.r 6 (.r 7 (.r 8 (.r 9 (.r 10 (.r 11 (.e 12 [] (.r 13 (.r 14 (.r 15 (.e 16 [0,1,2,3,4,5,6,7,8,9,10,11,13,14,15] (.e 17 [15] (.e 18 [] .nil .nil) .nil) .nil)))) (.e 16 [0,1,2,3,4,5,6,7,8,9,10,11] (.e 12 [] (.r 13 (.r 14 (.r 15 (.e 17 [15] (.e 18 [] .nil .nil) .nil)))) .nil) .nil))))))))))))))
abbrev C43_39 := Ro [Ld 135 (some 3) t14,Sxn 3 t5 t135]
abbrev C43_40 := Ro [Mv 136 t15]
abbrev C43_41 := Ro [Ld 137 (some 4) t3,Fa 138 5 t9,Ld 139 none t138,Ld 140 (some 32) t4,Mv 141 t7,Ld 142 (some 3) t5,Ca 143 73 [t137,t139,t140,t141,t142],Sxn 39 t6 t143]
abbrev C43_42 := Sq [6] C43_41 .ret
abbrev C43_43 := Cd t136 C43_42 .skip
abbrev C43_44 := Sq [3,4,5,6,7,8,9,10,136] C43_40 C43_43
abbrev C43_45 := Sq [3,4,5,6,7,8,9,10,15] C43_39 C43_44
abbrev C43_46 := Sq [3,4,5,6,7,8,9,10,14,15] C43_38 C43_45
abbrev C43_47 := Sq [3,4,5,6,7,8,9,10,13] C43_37 C43_46
abbrev C43_48 := Sq [3,4,5,6,7,8,9,10,13] C43_32 C43_47
abbrev C43_49 := Ro [Bn 145 .eql t33 (kI 6),As 144 t145]
abbrev C43_50 := Dr [Mv 146 t11,Mv 147 t7,Fa 148 1 t9,Ld 149 none t148,Ix 150 1 t147 t149,Ld 151 none t150,Mv 152 t7,Fa 153 2 t9,Ld 154 none t153,Ix 155 1 t152 t154,Ld 156 none t155,Ca 157 77 [t146,t151,t156],Un 158 .not t157] [[],[],[],[2],[1,3],[4],[],[],[7],[6,8],[9],[0,5,10],[11]] [(0,[]),(1,[]),(2,[]),(3,[]),(4,[]),(5,[]),(6,[]),(7,[]),(8,[]),(9,[]),(10,[]),(11,[]),(12,[])]
abbrev C43_51 := Ro [Ld 159 (some 4) t3,Fa 160 4 t9,Ld 161 none t160,Ld 162 (some 32) t4,Mv 163 t7,Ld 164 (some 3) t5,Ca 165 73 [t159,t161,t162,t163,t164],Sxn 39 t6 t165]
abbrev C43_52 := Sq [6] C43_51 .ret
abbrev C43_53 := Cd t158 C43_52 .skip
abbrev C43_54 := Sq [3,4,5,6,7,8,9,10,158] C43_50 C43_53
abbrev C43_55 := Cd t144 C43_54 .skip
abbrev C43_56 := Sq [3,4,5,6,7,8,9,10,11,144] C43_49 C43_55
abbrev C43_57 := Cd t98 C43_48 C43_56
abbrev C43_58 := Sq [3,4,5,6,7,8,9,10,11,33,98] C43_31 C43_57
abbrev C43_59 := Cd t58 C43_30 C43_58
abbrev C43_60 := Sq [3,4,5,6,7,8,9,10,11,33,58] C43_16 C43_59
abbrev C43_61 := Cd t44 C43_15 C43_60
abbrev C43_62 := Sq [3,4,5,6,7,8,9,10,11,33,44] C43_14 C43_61
abbrev C43_63 := Cd t40 C43_13 C43_62
abbrev C43_64 := Sq [3,4,5,6,7,8,9,10,11,33,40] C43_12 C43_63
abbrev C43_65 := Cd t34 C43_11 C43_64
abbrev C43_66 := Sq [3,4,5,6,7,8,9,10,11,33,34] C43_10 C43_65
abbrev C43_67 := Bk 2 C43_66
abbrev C43_68 := Sq [3,4,5,6,7,8,9,10,11,33] C43_9 C43_67
abbrev C43_69 := Ro [Mv 166 t7,Mv 167 t10,⟨(some 168),none,.e (.bsr 1 [.int .u32 0] [(0,1,t167)])⟩,Ap 169 1 4 t166 t168,As 7 t169]
abbrev C43_70 := Sq [3,4,5,6,7,8,10] C43_68 C43_69
abbrev C43_71 := Sq [3,4,5,6,7,8,9,10,11] C43_8 C43_70
abbrev C43_72 := Sq [3,4,5,6,7,8,9,10] C43_7 C43_71
abbrev C43_73 : ACode := .fz 9 C43_72
abbrev C43_74 := Sq [3,4,5,6,7,8,9] C43_6 C43_73
abbrev C43_75 := Bk 1 C43_74
abbrev C43_76 := Ro [Mv 22 t8,Bn 23 .add t22 (kI 1),As 8 t23]
abbrev C43_77 := Sq [3,4,5,6,7,8] C43_75 C43_76
abbrev C43_78 := Sq [3,4,5,6,7,8] C43_5 C43_77
abbrev C43_79 : ACode := .loop C43_78
abbrev C43_80 := Bk 0 C43_79
abbrev C43_81 := Sq [3,4,5,6,7,8] C43_2 C43_80
abbrev C43_82 := Ro [Ld 170 (some 4) t3,Fa 171 3 t3,Ld 172 none t171,Ld 173 (some 32) t4,Mv 174 t7,Ld 175 (some 3) t5,Ca 176 73 [t170,t172,t173,t174,t175],Sxn 39 t6 t176]
abbrev C43_83 := Sq [6] C43_82 .ret
abbrev C43_84 := Sq [3,4,5,6,7] C43_81 C43_83
abbrev C43_85 := Sq [3,4,5,6,7] C43_1 C43_84
abbrev C43_86 := Sq [3,4,5,6] C43_0 C43_85
abbrev C43 := C43_86
abbrev C43r : List RV := [.c 6 (some 39)]
theorem C43ok : Okf Tryz.prog 43 Tryz.f43 C43 C43r := ⟨Tryz.func43, by kernel_rfl, by kernel_rfl, by kernel_rfl⟩

/-- mimesis/mimesisref18.Why -/
abbrev C44_0 := Ro [As 6 (kI 0)]
abbrev C44_1 := Ro [Mv 8 t0,Ca 9 78 [t8],Un 10 .not t9]
abbrev C44_2 := Ro [As 6 (kI 4)]
abbrev C44_3 := Sq [6] C44_2 .ret
abbrev C44_4 := Cd t10 C44_3 .skip
abbrev C44_5 := Sq [0,1,2,10] C44_1 C44_4
abbrev C44_6 := Ro [Mv 11 t1,Mv 12 t0,⟨(some 13),none,.e (.mks 1 [.int .u8 0] t12 t12)⟩,Ca 14 79 [t11,t13],As 7 t14]
abbrev C44_7 := Ro [Mv 15 t7,Bn 16 .neq t15 (kI 0)]
abbrev C44_8 := Ro [Mv 17 t7,As 6 t17]
abbrev C44_9 := Sq [6] C44_8 .ret
abbrev C44_10 := Cd t16 C44_9 .skip
abbrev C44_11 := Sq [2,7,16] C44_7 C44_10
abbrev C44_12 := Sq [2,7] C44_6 C44_11
abbrev C44_13 := Ro [Mv 18 t2,Ca 19 80 [t18],As 6 t19]
abbrev C44_14 := Sq [6] C44_13 .ret
abbrev C44_15 := Sq [2] C44_12 C44_14
abbrev C44_16 := Sq [0,1,2] C44_5 C44_15
abbrev C44_17 := Sq [0,1,2] C44_0 C44_16
abbrev C44 := C44_17
abbrev C44r : List RV := [.t 6]
theorem C44ok : Okf Tryz.prog 44 Tryz.f44 C44 C44r := ⟨Tryz.func44, by kernel_rfl, by kernel_rfl, by kernel_rfl⟩

/-- mimesis/mimesisref18.Legal -/
abbrev C45_0 := Ro [Br 1 t0,As 2 kF]
abbrev C45_1 := Dr [Fa 3 0 t1,Ld 4 none t3,Fa 5 0 t1,Ld 6 none t5,Ca 7 81 [(kI 768),t6],Bn 8 .eql t4 t7,Mv 9 t8,Fat 10 9 1 t1,Ldt 11 9 none t10,Fat 12 9 1 t1,Ldt 13 9 none t12,Cat 14 9 81 [(kI 772),t13],Bnt 15 9 .eql t11 t14,Pk 16 t9 t15 kF,Mv 17 t16,Fat 18 17 2 t1,Ldt 19 17 none t18,Fat 20 17 2 t1,Ldt 21 17 none t20,Cat 22 17 81 [(kI 773),t21],Bnt 23 17 .eql t19 t22,Pk 24 t17 t23 kF,Mv 25 t24,Fat 26 25 4 t1,Ldt 27 25 none t26,Fat 28 25 4 t1,Ldt 29 25 none t28,Cat 30 25 81 [(kI 833),t29],Bnt 31 25 .eql t27 t30,Pk 32 t25 t31 kF,As 2 t32] [[],[0],[],[2],[3],[1,4],[5,4],[6],[7,6],[6],[9,6],[10,6,6],[8,11,6],[6,12],[13,11],[14],[15,14],[14],[17,14],[18,14,14],[16,19,14],[14,20],[21,19],[22],[23,22],[22],[25,22],[26,22,22],[24,27,22],[22,28],[29,27,0,1,2,3,4,5,6,7,8,9,10,11,12,13,14,15,16,17,18,19,20,21,22,23,24,25,26,27,28,29]] [(0,[]),(1,[]),(2,[]),(3,[]),(4,[0,1]),(5,[]),(6,[]),(7,[]),(8,[]),(9,[]),(10,[]),(11,[7,8]),(12,[]),(13,[]),(14,[]),(15,[]),(16,[]),(17,[]),(18,[]),(19,[15,16]),(20,[]),(21,[]),(22,[]),(23,[]),(24,[]),(25,[]),(26,[]),(27,[23,24]),(28,[]),(29,[]),(30,[])]
abbrev C45_2 := Sq [2] C45_1 .ret
abbrev C45_3 := Sq [1] C45_0 C45_2
abbrev C45 := C45_3
abbrev C45r : List RV := [.t 2]
theorem C45ok : Okf Tryz.prog 45 Tryz.f45 C45 C45r := ⟨Tryz.func45, by kernel_rfl, by kernel_rfl, by kernel_rfl⟩

/-- (mimesis/cpu.State).plain -/
abbrev C46_0 := Ro [Br 1 t0,Al 2 [z4,z4,z4,z4,z4,z4,z4,z4,z4,z4,z4,z4,z4,z4,z4,z4,z4,z4,z4,z4,z4,z4,z4,z4,z4,z4,z4,z4,z4,z4,z4,z4,z4,z4,z4,z4,z4,z4,z4,z4,z8,z8,z8,z8,zb,zb,zi,z8,z8,zb,z4]]
abbrev C46_1 := Ro [Fa 3 0 t1,Ld 4 none t3,Fa 5 1 t1,Ld 6 (some 32) t5,Fa 7 33 t1,Ld 8 (some 9) t7,Fa 9 42 t1,Ld 10 none t9,Fa 11 43 t1,Ld 12 none t11,Fa 13 47 t1,Ld 14 none t13,Fa 15 52 t1,Ld 16 none t15,Fa 17 48 t1,Ld 18 none t17,Fa 19 49 t1,Ld 20 (some 3) t19,Fa 21 53 t1,Ld 22 none t21,⟨(some 23),none,.r (.bld [z4,z4,z4,z4,z4,z4,z4,z4,z4,z4,z4,z4,z4,z4,z4,z4,z4,z4,z4,z4,z4,z4,z4,z4,z4,z4,z4,z4,z4,z4,z4,z4,z4,z4,z4,z4,z4,z4,z4,z4,z8,z8,z8,z8,zb,zb,zi,z8,z8,zb,z4] [(0,1,t4),(1,32,t6),(33,9,t8),(42,1,t10),(43,1,t12),(44,1,t14),(45,1,t16),(46,1,t18),(47,3,t20),(50,1,t22)])⟩,Sxn 51 t2 t23]
abbrev C46_2 := Sq [2] C46_1 .ret
abbrev C46_3 := Sq [1,2] C46_0 C46_2
abbrev C46 := C46_3
abbrev C46r : List RV := [.c 2 (some 51)]
theorem C46ok : Okf Tryz.prog 46 Tryz.f46 C46 C46r := ⟨Tryz.func46, by kernel_rfl, by kernel_rfl, by kernel_rfl⟩

/-- slices.Equal[[]byte,byte] -/
abbrev C47_0 := Ro [As 4 kF]
abbrev C47_1 := Ro [Mv 6 t0,Ln 7 t6,Mv 8 t1,Ln 9 t8,Bn 10 .neq t7 t9]
abbrev C47_2 := Ro [As 4 kF]
abbrev C47_3 := Sq [4] C47_2 .ret
abbrev C47_4 := Cd t10 C47_3 .skip
abbrev C47_5 := Sq [0,1,10] C47_1 C47_4
abbrev C47_6 := Ro [Mv 11 t0,Ln 12 t11,Mv 13 (kI 0)]
abbrev C47_7 := Ro [Bn 14 .lss t13 t12]
abbrev C47_8 := Cd t14 .skip (.exit 0)
abbrev C47_9 := Ro [Mv 15 t13,As 5 t15]
abbrev C47_10 := Dr [Mv 16 t0,Mv 17 t5,Ix 18 1 t16 t17,Ld 19 none t18,Mv 20 t1,Mv 21 t5,Ix 22 1 t20 t21,Ld 23 none t22,Bn 24 .neq t19 t23] [[],[],[0,1],[2],[],[],[4,5],[6],[3,7]] [(0,[]),(1,[]),(2,[]),(3,[]),(4,[]),(5,[]),(6,[]),(7,[]),(8,[])]
abbrev C47_11 := Ro [As 4 kF]
abbrev C47_12 := Sq [4] C47_11 .ret
abbrev C47_13 := Cd t24 C47_12 .skip
abbrev C47_14 := Sq [0,1,12,13,24] C47_10 C47_13
abbrev C47_15 := Sq [0,1,5,12,13] C47_9 C47_14
abbrev C47_16 := Bk 1 C47_15
abbrev C47_17 := Ro [Bn 25 .add t13 (kI 1),Mv 13 t25]
abbrev C47_18 := Sq [0,1,12,13] C47_16 C47_17
abbrev C47_19 := Sq [0,1,12,13] C47_8 C47_18
abbrev C47_20 := Sq [0,1,12,13,14] C47_7 C47_19
abbrev C47_21 : ACode := .loop C47_20
abbrev C47_22 := Bk 0 C47_21
abbrev C47_23 := Sq [0,1,12,13] C47_6 C47_22
abbrev C47_24 := Ro [As 4 kT]
abbrev C47_25 := Sq [4] C47_24 .ret
abbrev C47_26 := Sq [] C47_23 C47_25
abbrev C47_27 := Sq [0,1] C47_5 C47_26
abbrev C47_28 := Sq [0,1] C47_0 C47_27
abbrev C47 := C47_28
abbrev C47r : List RV := [.t 4]
theorem C47ok : Okf Tryz.prog 47 Tryz.f47 C47 C47r := ⟨Tryz.func47, by kernel_rfl, by kernel_rfl, by kernel_rfl⟩

/-- mimesis/cpu.SameEvents -/
abbrev C48_0 := Ro [As 4 kF]
abbrev C48_1 := Ro [Mv 5 t0,Mv 6 t1,Ca 7 82 [t5,t6],As 4 t7]
abbrev C48_2 := Sq [4] C48_1 .ret
abbrev C48_3 := Sq [0,1] C48_0 C48_2
abbrev C48 := C48_3
abbrev C48r : List RV := [.t 4]
theorem C48ok : Okf Tryz.prog 48 Tryz.f48 C48 C48r := ⟨Tryz.func48, by kernel_rfl, by kernel_rfl, by kernel_rfl⟩

/-- mimesis/ram.New -/
abbrev C49_0 := Ro [As 2 kP,As 3 (kI 0)]
abbrev C49_1 := Ro [Mv 5 t0,Bn 6 .lss t5 (kI 64),Mv 7 t6,Mvf 8 7 t0,Bnf 9 7 .gtr t8 (kI 65536),Pk 10 t7 kT t9,Mv 11 t10,Mvf 12 11 t0,Bnf 13 11 .rem t12 (kI 64),Bnf 14 11 .neq t13 (kI 0),Pk 15 t11 kT t14]
abbrev C49_2 := Ro [As 2 kP,As 3 (kI 4)]
abbrev C49_3 := Sq [2,3] C49_2 .ret
abbrev C49_4 := Cd t15 C49_3 .skip
abbrev C49_5 := Sq [0,15] C49_1 C49_4
abbrev C49_6 := Ro [Mv 16 t0,Bn 17 .quo t16 (kI 64),As 4 t17]
abbrev C49_7 : ACode := .dregt [Mv 18 t0,⟨(some 19),none,.e (.mks 1 [.int .u8 0] t18 t18)⟩,Mv 20 t4,⟨(some 21),none,.e (.mks 1 [.bool false] t20 t20)⟩,Mv 22 t4,⟨(some 23),none,.e (.mks 8 [.int .u64 0] t22 t22)⟩,⟨(some 24),none,.r (.bld [.nils,.nils,.nils] [(0,1,t19),(1,1,t21),(2,1,t23)])⟩,⟨(some 25),none,.e (.box t24)⟩,As 2 t25,As 3 (kI 0)] [[],[0,0],[],[2,2],[],[4,4],[1,3,5],[6],[7,0,1,2,3,4,5,6,7],[8,0,1,2,3,4,5,6,7,8]] (.r 0 (.r 2 (.r 4 (.e 1 [2,4] (.e 3 [0,4] (.e 5 [0,2] (.r 6 (.e 7 [] (.e 8 [] (.e 9 [] .nil .nil) .nil) .nil)) .nil) (.e 5 [0,2] (.e 3 [0,4] (.r 6 (.e 7 [] (.e 8 [] (.e 9 [] .nil .nil) .nil) .nil)) .nil) .nil)) (.e 3 [0,4] (.e 1 [2,4] (.e 5 [0,2] (.r 6 (.e 7 [] (.e 8 [] (.e 9 [] .nil .nil) .nil) .nil)) .nil) (.e 5 [0,2] (.e 1 [2,4] (.r 6 (.e 7 [] (.e 8 [] (.e 9 [] .nil .nil) .nil) .nil)) .nil) .nil)) (.e 5 [0,2] (.e 1 [2,4] (.e 3 [0,4] (.r 6 (.e 7 [] (.e 8 [] (.e 9 [] .nil .nil) .nil) .nil)) .nil) (.e 3 [0,4] (.e 1 [2,4] (.r 6 (.e 7 [] (.e 8 [] (.e 9 [] .nil .nil) .nil) .nil)) .nil) .nil)) .nil))))))
abbrev C49_8 := Sq [2,3] C49_7 .ret
abbrev C49_9 := Sq [0,4] C49_6 C49_8
abbrev C49_10 := Sq [0] C49_5 C49_9
abbrev C49_11 := Sq [0] C49_0 C49_10
abbrev C49 := C49_11
abbrev C49r : List RV := [.t 2,.t 3]
theorem C49ok : Okf Tryz.prog 49 Tryz.f49 C49 C49r := ⟨Tryz.func49, by kernel_rfl, by kernel_rfl, by kernel_rfl⟩

/-- mimesis/image.Lay -/
abbrev C50_0 := Ro [As 4 (kI 0)]
abbrev C50_1 := Ro [Mv 8 t0,Ep 9 false t8 kP]
abbrev C50_2 := Ro [As 4 (kI 2)]
abbrev C50_3 := Sq [4] C50_2 .ret
abbrev C50_4 := Cd t9 C50_3 .skip
abbrev C50_5 := Sq [0,1,9] C50_1 C50_4
abbrev C50_6 := Ro [Mv 10 t1,Mv 11 t0,Ca 12 84 [t11],Ca 13 83 [t10,t12],As 5 t13]
abbrev C50_7 := Ro [Mv 14 t5,Bn 15 .neq t14 (kI 0)]
abbrev C50_8 := Ro [Mv 16 t5,As 4 t16]
abbrev C50_9 := Sq [4] C50_8 .ret
abbrev C50_10 := Cd t15 C50_9 .skip
abbrev C50_11 := Sq [0,1,5,15] C50_7 C50_10
abbrev C50_12 := Sq [0,1,5] C50_6 C50_11
abbrev C50_13 := Ro [Mv 17 t1,Ln 18 t17,Mv 19 (kI 0)]
abbrev C50_14 := Ro [Bn 20 .lss t19 t18]
abbrev C50_15 := Cd t20 .skip (.exit 0)
abbrev C50_16 := Ro [Ix 21 2 t17 t19,Ld 22 (some 2) t21,Al 7 [.int .u32 0,.nils],Sxn 2 t7 t22]
abbrev C50_17 := Ro [Mv 23 t0,Fa 24 0 t7,Ld 25 none t24,Fa 26 1 t7,Ld 27 none t26,Ca 28 85 [t23,t25,t27]]
abbrev C50_18 : ACode := .fz 7 C50_17
abbrev C50_19 := Sq [0,7,17,18,19] C50_16 C50_18
abbrev C50_20 := Bk 1 C50_19
abbrev C50_21 := Ro [Bn 29 .add t19 (kI 1),Mv 19 t29]
abbrev C50_22 := Sq [0,17,18,19] C50_20 C50_21
abbrev C50_23 := Sq [0,17,18,19] C50_15 C50_22
abbrev C50_24 := Sq [0,17,18,19,20] C50_14 C50_23
abbrev C50_25 : ACode := .loop C50_24
abbrev C50_26 := Bk 0 C50_25
abbrev C50_27 := Sq [0,17,18,19] C50_13 C50_26
abbrev C50_28 := Ro [As 4 (kI 0)]
abbrev C50_29 := Sq [4] C50_28 .ret
abbrev C50_30 := Sq [] C50_27 C50_29
abbrev C50_31 := Sq [0,1] C50_12 C50_30
abbrev C50_32 := Sq [0,1] C50_5 C50_31
abbrev C50_33 := Sq [0,1] C50_0 C50_32
abbrev C50 := C50_33
abbrev C50r : List RV := [.t 4]
theorem C50ok : Okf Tryz.prog 50 Tryz.f50 C50 C50r := ⟨Tryz.func50, by kernel_rfl, by kernel_rfl, by kernel_rfl⟩

/-- mimesis/console.New -/
abbrev C51_0 := Ro [As 2 kP,As 3 (kI 0)]
abbrev C51_1 := Ro [Mv 5 t0,Ln 6 t5,Bn 7 .gtr t6 (kI 256)]
abbrev C51_2 := Ro [As 2 kP,As 3 (kI 3)]
abbrev C51_3 := Sq [2,3] C51_2 .ret
abbrev C51_4 := Cd t7 C51_3 .skip
abbrev C51_5 := Sq [0,7] C51_1 C51_4
abbrev C51_6 := Ro [Mv 8 t0,Ln 9 t8,Mv 10 (kI 0)]
abbrev C51_7 := Ro [Bn 11 .lss t10 t9]
abbrev C51_8 := Cd t11 .skip (.exit 0)
abbrev C51_9 := Ro [Mv 12 t10,As 4 t12]
abbrev C51_10 := Dr [Mv 13 t4,Bn 14 .gtr t13 (kI 0),Mv 15 t14,Mvt 16 15 t0,Mvt 17 15 t4,Ixt 18 15 2 t16 t17,Fat 19 15 0 t18,Ldt 20 15 none t19,Mvt 21 15 t0,Mvt 22 15 t4,Bnt 23 15 .sub t22 (kI 1),Ixt 24 15 2 t21 t23,Fat 25 15 0 t24,Ldt 26 15 none t25,Bnt 27 15 .lss t20 t26,Pk 28 t15 t27 kF] [[],[0],[1],[2],[2],[3,4,2],[5,2],[6,2],[2],[2],[9,2],[8,10,2],[11,2],[12,2],[7,13,2],[2,14]] [(0,[]),(1,[]),(2,[]),(3,[]),(4,[]),(5,[]),(6,[]),(7,[]),(8,[]),(9,[]),(10,[]),(11,[]),(12,[]),(13,[]),(14,[]),(15,[])]
abbrev C51_11 := Ro [As 2 kP,As 3 (kI 1)]
abbrev C51_12 := Sq [2,3] C51_11 .ret
abbrev C51_13 := Cd t28 C51_12 .skip
abbrev C51_14 := Sq [0,9,10,28] C51_10 C51_13
abbrev C51_15 := Sq [0,4,9,10] C51_9 C51_14
abbrev C51_16 := Bk 1 C51_15
abbrev C51_17 := Ro [Bn 29 .add t10 (kI 1),Mv 10 t29]
abbrev C51_18 := Sq [0,9,10] C51_16 C51_17
abbrev C51_19 := Sq [0,9,10] C51_8 C51_18
abbrev C51_20 := Sq [0,9,10,11] C51_7 C51_19
abbrev C51_21 : ACode := .loop C51_20
abbrev C51_22 := Bk 0 C51_21
abbrev C51_23 := Sq [0,9,10] C51_6 C51_22
abbrev C51_24 := Ro [Mv 30 t0,Ca 31 86 [t30],Ca 32 87 [],⟨(some 33),none,.r (.bld [.nils,zi,.nilp,zb,.nils] [(0,1,t31),(2,1,t32)])⟩,⟨(some 34),none,.e (.box t33)⟩,As 2 t34,As 3 (kI 0)]
abbrev C51_25 := Sq [2,3] C51_24 .ret
abbrev C51_26 := Sq [0] C51_23 C51_25
abbrev C51_27 := Sq [0] C51_5 C51_26
abbrev C51_28 := Sq [0] C51_0 C51_27
abbrev C51 := C51_28
abbrev C51r : List RV := [.t 2,.t 3]
theorem C51ok : Okf Tryz.prog 51 Tryz.f51 C51 C51r := ⟨Tryz.func51, by kernel_rfl, by kernel_rfl, by kernel_rfl⟩

/-- mimesis/bus.New -/
abbrev C52_0 := Ro [As 6 kP,As 7 (kI 0)]
abbrev C52_1 := Ro [Mv 8 t0,Ep 9 false t8 kP,Mv 10 t9,Mvf 11 10 t1,Epf 12 10 false t11 kP,Pk 13 t10 kT t12,Mv 14 t13,Mvf 15 14 t2,Epf 16 14 false t15 kP,Pk 17 t14 kT t16]
abbrev C52_2 := Ro [As 6 kP,As 7 (kI 2)]
abbrev C52_3 := Sq [6,7] C52_2 .ret
abbrev C52_4 := Cd t17 C52_3 .skip
abbrev C52_5 := Sq [0,1,2,17] C52_1 C52_4
abbrev C52_6 := Ro [Mv 18 t0,Mv 19 t1,Mv 20 t2,⟨(some 21),none,.r (.bld [.nilp,.nilp,.nilp,zb,z4] [(0,1,t18),(1,1,t19),(2,1,t20)])⟩,⟨(some 22),none,.e (.box t21)⟩,As 6 t22,As 7 (kI 0)]
abbrev C52_7 := Sq [6,7] C52_6 .ret
abbrev C52_8 := Sq [0,1,2] C52_5 C52_7
abbrev C52_9 := Sq [0,1,2] C52_0 C52_8
abbrev C52 := C52_9
abbrev C52r : List RV := [.t 6,.t 7]
theorem C52ok : Okf Tryz.prog 52 Tryz.f52 C52 C52r := ⟨Tryz.func52, by kernel_rfl, by kernel_rfl, by kernel_rfl⟩

/-- mimesis/timer.New -/
abbrev C53_0 := Ro [As 0 kP]
abbrev C53_1 := Ro [⟨(some 1),none,.r (.bld [.int .u64 0,.int .u64 0,.bool false] [(1,1,(kL 18446744073709551615))])⟩,⟨(some 2),none,.e (.box t1)⟩,As 0 t2]
abbrev C53_2 := Sq [0] C53_1 .ret
abbrev C53_3 := Sq [] C53_0 C53_2
abbrev C53 := C53_3
abbrev C53r : List RV := [.t 0]
theorem C53ok : Okf Tryz.prog 53 Tryz.f53 C53 C53r := ⟨Tryz.func53, by kernel_rfl, by kernel_rfl, by kernel_rfl⟩

/-- mimesis/csr.New -/
abbrev C54_0 := Ro [Al 0 [z4,z4,z4,z4,z4,z4,z4,z8,z8]]
abbrev C54_1 := Ro [⟨(some 1),none,.r (.bld [z4,z4,z4,z4,z4,z4,z4] [(0,1,(kU 6144))])⟩,⟨(some 2),none,.r (.bld [z4,z4,z4,z4,z4,z4,z4,z8,z8] [(0,7,t1)])⟩,Sxn 9 t0 t2]
abbrev C54_2 := Sq [0] C54_1 .ret
abbrev C54_3 := Sq [0] C54_0 C54_2
abbrev C54 := C54_3
abbrev C54r : List RV := [.c 0 (some 9)]
theorem C54ok : Okf Tryz.prog 54 Tryz.f54 C54 C54r := ⟨Tryz.func54, by kernel_rfl, by kernel_rfl, by kernel_rfl⟩

/-- (*mimesis/cpu.Cpu).has -/
abbrev C55_0 := Ro [As 4 kF]
abbrev C55_1 := Ro [Mv 5 t0,Ep 6 true t5 kP,Mv 7 t6,Mvt 8 7 t1,Bnt 9 7 .geq t8 (kI 0),Pk 10 t7 t9 kF,Mv 11 t10,Mvt 12 11 t1,Bnt 13 11 .lss t12 (kI 32),Pk 14 t11 t13 kF,As 4 t14]
abbrev C55_2 := Sq [4] C55_1 .ret
abbrev C55_3 := Sq [0,1] C55_0 C55_2
abbrev C55 := C55_3
abbrev C55r : List RV := [.t 4]
theorem C55ok : Okf Tryz.prog 55 Tryz.f55 C55 C55r := ⟨Tryz.func55, by kernel_rfl, by kernel_rfl, by kernel_rfl⟩

/-- mimesis/mimesisref15.Lay -/
abbrev C56_0 := Ro [As 4 kS]
abbrev C56_1 := Ro [As 5 (kI 0)]
abbrev C56_2 := Ro [Mv 6 t5,Mv 7 t1,Ln 8 t7,Bn 9 .lss t6 t8]
abbrev C56_3 := Cd t9 .skip (.exit 0)
abbrev C56_4 := Sq [0,1,5,9] C56_2 C56_3
abbrev C56_5 := Ro [Mv 12 t1,Mv 13 t5,Ix 14 2 t12 t13,Fa 15 1 t14,Ld 16 none t15,Ln 17 t16,Bn 18 .gtr t17 (kI 0)]
abbrev C56_6 := Dr [Mv 19 t0,Mv 20 t1,Mv 21 t5,Ix 22 2 t20 t21,Fa 23 0 t22,Ld 24 none t23,Mv 25 t1,Mv 26 t5,Ix 27 2 t25 t26,Fa 28 1 t27,Ld 29 none t28,Ca 30 88 [t19,t24,t29],As 0 t30] [[],[],[],[1,2],[3],[4],[],[],[6,7],[8],[9],[0,5,10],[11,11,0,1,2,3,4,5,6,7,8,9,10,11]] [(0,[]),(1,[]),(2,[]),(3,[]),(4,[]),(5,[]),(6,[]),(7,[]),(8,[]),(9,[]),(10,[]),(11,[]),(12,[])]
abbrev C56_7 := Cd t18 C56_6 .skip
abbrev C56_8 := Sq [0,1,5,18] C56_5 C56_7
abbrev C56_9 := Bk 1 C56_8
abbrev C56_10 := Ro [Mv 10 t5,Bn 11 .add t10 (kI 1),As 5 t11]
abbrev C56_11 := Sq [0,1,5] C56_9 C56_10
abbrev C56_12 := Sq [0,1,5] C56_4 C56_11
abbrev C56_13 : ACode := .loop C56_12
abbrev C56_14 := Bk 0 C56_13
abbrev C56_15 := Sq [0,1,5] C56_1 C56_14
abbrev C56_16 := Ro [Mv 31 t0,As 4 t31]
abbrev C56_17 := Sq [4] C56_16 .ret
abbrev C56_18 := Sq [0] C56_15 C56_17
abbrev C56_19 := Sq [0,1] C56_0 C56_18
abbrev C56 := C56_19
abbrev C56r : List RV := [.t 4]
theorem C56ok : Okf Tryz.prog 56 Tryz.f56 C56 C56r := ⟨Tryz.func56, by kernel_rfl, by kernel_rfl, by kernel_rfl⟩

/-- mimesis/mimesisref13.New -/
abbrev C57_0 := Ro [Al 0 [.int .u64 0,.int .u64 0,.bool false]]
abbrev C57_1 := Ro [⟨(some 1),none,.r (.bld [.int .u64 0,.int .u64 0,.bool false] [(1,1,(kL 18446744073709551615))])⟩,Sxn 3 t0 t1]
abbrev C57_2 := Sq [0] C57_1 .ret
abbrev C57_3 := Sq [0] C57_0 C57_2
abbrev C57 := C57_3
abbrev C57r : List RV := [.c 0 (some 3)]
theorem C57ok : Okf Tryz.prog 57 Tryz.f57 C57 C57r := ⟨Tryz.func57, by kernel_rfl, by kernel_rfl, by kernel_rfl⟩

/-- mimesis/mimesisref16.New -/
abbrev C58_0 := Ro [Al 0 [z4,z4,z4,z4,z4,z4,z4,z8,z8]]
abbrev C58_1 := Ro [⟨(some 1),none,.r (.bld [z4,z4,z4,z4,z4,z4,z4] [(0,1,(kU 6144))])⟩,⟨(some 2),none,.r (.bld [z4,z4,z4,z4,z4,z4,z4,z8,z8] [(0,7,t1)])⟩,Sxn 9 t0 t2]
abbrev C58_2 := Sq [0] C58_1 .ret
abbrev C58_3 := Sq [0] C58_0 C58_2
abbrev C58 := C58_3
abbrev C58r : List RV := [.c 0 (some 9)]
theorem C58ok : Okf Tryz.prog 58 Tryz.f58 C58 C58r := ⟨Tryz.func58, by kernel_rfl, by kernel_rfl, by kernel_rfl⟩

/-- mimesis/ir.Check -/
abbrev C59_0 := Ro [As 2 (kI 0)]
abbrev C59_1 := Ro [Mv 4 t0,Ep 5 false t4 kP,As 3 t5]
abbrev C59_2 := Ro [As 2 (kI 1)]
abbrev C59_3 := Sq [2] C59_2 .ret
abbrev C59_4 := Ro [Mv 7 t0,Nc 8 t7,Fa 9 0 t8,Ld 10 none t9,Ln 11 t10,Bn 12 .gtr t11 (kI 32),As 6 t12]
abbrev C59_5 := Ro [Mv 13 t0,Nc 14 t13,Fa 15 1 t14,Ld 16 none t15,Ln 17 t16,Bn 18 .gtr t17 (kI 512),As 6 t18]
abbrev C59_6 := Ro [Mv 19 t0,Nc 20 t19,Fa 21 2 t20,Ld 22 none t21,Ln 23 t22,Bn 24 .gtr t23 (kI 128),As 6 t24]
abbrev C59_7 := Cd t6 .skip C59_6
abbrev C59_8 := Sq [0,6] C59_5 C59_7
abbrev C59_9 := Cd t6 .skip C59_8
abbrev C59_10 := Sq [0,6] C59_4 C59_9
abbrev C59_11 := Ro [As 2 (kI 3)]
abbrev C59_12 := Sq [2] C59_11 .ret
abbrev C59_13 := Ro [Mv 26 t0,⟨(some 27),none,.r (.bld [.nilp] [(0,1,t26)])⟩,Ca 28 89 [t27],Un 29 .not t28,As 25 t29]
abbrev C59_14 := Ro [As 2 (kI 1)]
abbrev C59_15 := Sq [2] C59_14 .ret
abbrev C59_16 := Cd t25 C59_15 .skip
abbrev C59_17 := Sq [25] C59_13 C59_16
abbrev C59_18 := Cd t6 C59_12 C59_17
abbrev C59_19 := Sq [0,6] C59_10 C59_18
abbrev C59_20 := Cd t3 C59_3 C59_19
abbrev C59_21 := Sq [0,3] C59_1 C59_20
abbrev C59_22 := Bk 0 C59_21
abbrev C59_23 := Ro [As 2 (kI 0)]
abbrev C59_24 := Sq [2] C59_23 .ret
abbrev C59_25 := Sq [] C59_22 C59_24
abbrev C59_26 := Sq [0] C59_0 C59_25
abbrev C59 := C59_26
abbrev C59r : List RV := [.t 2]
theorem C59ok : Okf Tryz.prog 59 Tryz.f59 C59 C59r := ⟨Tryz.func59, by kernel_rfl, by kernel_rfl, by kernel_rfl⟩

/-- mimesis/step.Quiet -/
abbrev C60_0 := Ro [As 2 (kL 0)]
abbrev C60_1 := Ro [Mv 8 t0,Ep 9 false t8 kP]
abbrev C60_2 := Ro [As 2 (kL 0)]
abbrev C60_3 := Sq [2] C60_2 .ret
abbrev C60_4 := Cd t9 C60_3 .skip
abbrev C60_5 := Sq [0,9] C60_1 C60_4
abbrev C60_6 := Ro [Mv 10 t0,Nc 11 t10,Fa 12 33 t11,Fa 13 0 t12,Ld 14 (some 7) t13,Al 3 [z4,z4,z4,z4,z4,z4,z4],Sxn 7 t3 t14]
abbrev C60_7 := Ro [Fa 15 0 t3,Ld 16 none t15,Bn 17 .and t16 (kU 8),Bn 18 .eql t17 (kU 0)]
abbrev C60_8 := Ro [As 2 (kL 18446744073709551615)]
abbrev C60_9 := Sq [2] C60_8 .ret
abbrev C60_10 := Cd t18 C60_9 .skip
abbrev C60_11 := Sq [0,3,18] C60_7 C60_10
abbrev C60_12 := Dr [Mv 19 t0,Ca 20 23 [t19],Mv 21 t0,Nc 22 t21,Fa 23 42 t22,Ld 24 none t23,Ca 25 90 [t20,t24],As 4 t25] [[],[0],[],[2],[3],[4],[1,5,1],[6,6,0,1,2,3,4,5,6]] [(0,[]),(2,[]),(3,[]),(4,[]),(5,[]),(1,[2,3,4,5]),(6,[]),(7,[])]
abbrev C60_13 := Ro [As 5 (kL 18446744073709551615)]
abbrev C60_14 := Ro [Mv 27 t0,Ca 28 23 [t27],Ca 29 31 [t28],Ca 30 91 [t29],Mv 26 t30,Ex 31 0 t26,Ex 32 1 t26,As 6 t31,As 7 t32]
abbrev C60_15 := Ro [Mv 33 t7,Mv 34 t33,Fat 35 34 1 t3,Ldt 36 34 none t35,Bnt 37 34 .and t36 (kU 2048),Bnt 38 34 .neq t37 (kU 0),Pk 39 t34 t38 kF]
abbrev C60_16 := Ro [Mv 40 t6,Mv 41 t6,Mv 42 t0,Nc 43 t42,Fa 44 42 t43,Ld 45 none t44,⟨(some 46),none,.r (.mm false t41 t45)⟩,Bn 47 .sub t40 t46,As 5 t47]
abbrev C60_17 := Cd t39 C60_16 .skip
abbrev C60_18 := Sq [0,3,4,5,6,39] C60_15 C60_17
abbrev C60_19 := Sq [0,3,4,5,6,7] C60_14 C60_18
abbrev C60_20 := Ro [Fa 48 1 t3,Ld 49 none t48,Bn 50 .and t49 (kU 128),Bn 51 .neq t50 (kU 0)]
abbrev C60_21 := Dr [Mv 52 t5,Mv 53 t0,Ca 54 23 [t53],Ca 55 24 [t54],Mv 56 t0,Nc 57 t56,Fa 58 42 t57,Ld 59 none t58,Ca 60 92 [t55,t59],⟨(some 61),none,.r (.mm false t52 t60)⟩,As 5 t61] [[],[],[1],[2,2],[],[4],[5],[6],[3,7,3],[0,8],[9,8,0,1,2,3,4,5,6,7,8,9]] [(0,[]),(1,[]),(4,[]),(5,[]),(6,[]),(7,[]),(2,[0,4,5,6,7]),(3,[0,4,5,6,7]),(8,[0]),(9,[]),(10,[])]
abbrev C60_22 := Cd t51 C60_21 .skip
abbrev C60_23 := Sq [0,3,4,5,51] C60_20 C60_22
abbrev C60_24 := Ro [Ld 62 (some 7) t3,Mv 63 t4,Ca 64 93 [t62,t63]]
abbrev C60_25 := Ro [As 5 (kL 0)]
abbrev C60_26 := Cd t64 C60_25 .skip
abbrev C60_27 := Sq [5,64] C60_24 C60_26
abbrev C60_28 := Ro [Mv 65 t5,As 2 t65]
abbrev C60_29 := Sq [2] C60_28 .ret
abbrev C60_30 := Sq [5] C60_27 C60_29
abbrev C60_31 := Sq [3,4,5] C60_23 C60_30
abbrev C60_32 := Sq [0,3,4,5] C60_19 C60_31
abbrev C60_33 := Sq [0,3,4,5] C60_13 C60_32
abbrev C60_34 := Sq [0,3,4] C60_12 C60_33
abbrev C60_35 := Sq [0,3] C60_11 C60_34
abbrev C60_36 : ACode := .fz 3 C60_35
abbrev C60_37 := Sq [0,3] C60_6 C60_36
abbrev C60_38 := Sq [0] C60_5 C60_37
abbrev C60_39 := Sq [0] C60_0 C60_38
abbrev C60 := C60_39
abbrev C60r : List RV := [.t 2]
theorem C60ok : Okf Tryz.prog 60 Tryz.f60 C60 C60r := ⟨Tryz.func60, by kernel_rfl, by kernel_rfl, by kernel_rfl⟩

/-- (*mimesis/eval.frame).op -/
abbrev C61_0 := Ro [Br 2 t0,Br 3 t1,As 4 (kI 0)]
abbrev C61_1 := Ro [As 5 (kU 0),As 6 (kI (-1))]
abbrev C61_2 := Ro [⟨(some 10),none,.r (.mkf 94 [] [t2])⟩,As 7 t10]
abbrev C61_3 := Ro [Fa 11 0 t3,Ld 12 none t11]
abbrev C61_4 := Ro [Bn 16 .eql t12 (kI 1),As 15 t16]
abbrev C61_5 := Dr [Ld 17 none t2,Fa 18 3 t3,Ld 19 none t18,Nc 20 t17,Fa 21 1 t20,⟨(some 22),none,.r (.ixa 32 1 t21 t19)⟩,Ld 23 none t22,As 5 t23] [[],[],[1],[0],[3],[4,2],[5],[6,0,1,2,3,4,5,6]] [(0,[]),(1,[]),(2,[]),(3,[]),(4,[]),(5,[]),(6,[]),(7,[])]
abbrev C61_6 := Ro [Bn 25 .eql t12 (kI 4),As 24 t25]
abbrev C61_7 := Ro [Ld 27 none t2,Ld 28 (some 6) t3,Ca 29 95 [t27,t28],Mv 26 t29,Ex 30 0 t26,Ex 31 1 t26,As 5 t30,As 6 t31]
abbrev C61_8 := Ro [Bn 33 .eql t12 (kI 5),As 32 t33]
abbrev C61_9 := Ro [Ld 34 none t2,Ld 35 (some 6) t3,Ca 36 96 [t34,t35],As 6 t36]
abbrev C61_10 := Ro [Bn 38 .eql t12 (kI 6),As 37 t38]
abbrev C61_11 := Dr [Fa 40 3 t3,Ld 41 none t40,Cv 42 .i64 t41,Mv 43 t7,Fa 44 1 t3,Ld 45 none t44,⟨(some 46),none,.e (.callv t43 [t45])⟩,Mv 47 t7,Fa 48 2 t3,Ld 49 none t48,⟨(some 50),none,.e (.callv t47 [t49])⟩,Ca 51 97 [t42,t46,t50],Mv 39 t51,Ex 52 0 t39,Ex 53 1 t39,As 8 t52,As 9 t53] [[],[0],[1],[],[],[4],[3,5],[],[],[8],[7,9,6],[2,6,10,10],[11],[12],[12],[13,11,0,1,2,3,4,5,6,7,8,9,10,11,12,13],[14,15,0,1,2,3,4,5,6,7,8,9,10,11,12,13,14,15]] [(0,[]),(1,[]),(2,[]),(3,[]),(4,[]),(5,[]),(7,[]),(8,[]),(9,[]),(6,[0,1,2,7,8,9]),(10,[0,1,2]),(11,[]),(12,[]),(13,[]),(14,[]),(15,[14]),(16,[])]
abbrev C61_12 := Ro [Mv 54 t8,Un 55 .not t54]
abbrev C61_13 := Ro [Fa 56 4 t3,Ld 57 none t56,As 6 t57]
abbrev C61_14 := Cd t55 C61_13 .skip
abbrev C61_15 := Sq [2,3,5,6,55] C61_12 C61_14
abbrev C61_16 := Sq [2,3,5,6,8] C61_11 C61_15
abbrev C61_17 := Ro [Bn 59 .eql t12 (kI 3),As 58 t59]
abbrev C61_18 := Dr [Ld 61 (some 6) t3,Mv 62 t7,Fa 63 1 t3,Ld 64 none t63,⟨(some 65),none,.e (.callv t62 [t64])⟩,Mv 66 t7,Fa 67 2 t3,Ld 68 none t67,⟨(some 69),none,.e (.callv t66 [t68])⟩,Ca 70 98 [t61,t65,t69],Mv 60 t70,Ex 71 0 t60,Ex 72 1 t60,As 5 t71] [[],[],[],[2],[1,3],[],[],[6],[5,7,4],[0,4,8,8],[9],[10],[10],[11,9,0,1,2,3,4,5,6,7,8,9,10,11]] [(0,[]),(1,[]),(2,[]),(3,[]),(5,[]),(6,[]),(7,[]),(4,[0,5,6,7]),(8,[0]),(9,[]),(10,[]),(11,[]),(12,[]),(13,[12])]
abbrev C61_19 := Ro [Fa 13 3 t3,Ld 14 none t13,As 5 t14]
abbrev C61_20 := Cd t58 C61_18 C61_19
abbrev C61_21 := Sq [2,3,6,7,58] C61_17 C61_20
abbrev C61_22 := Cd t37 C61_16 C61_21
abbrev C61_23 := Sq [2,3,5,6,7,12,37] C61_10 C61_22
abbrev C61_24 := Cd t32 C61_9 C61_23
abbrev C61_25 := Sq [2,3,5,6,7,12,32] C61_8 C61_24
abbrev C61_26 := Cd t24 C61_7 C61_25
abbrev C61_27 := Sq [2,3,5,6,7,12,24] C61_6 C61_26
abbrev C61_28 := Cd t15 C61_5 C61_27
abbrev C61_29 := Sq [2,3,5,6,7,12,15] C61_4 C61_28
abbrev C61_30 := Bk 0 C61_29
abbrev C61_31 := Sq [2,3,5,6,7,12] C61_3 C61_30
abbrev C61_32 := Dr [Ld 73 none t2,Ld 74 none t2,Nc 75 t74,Fa 76 34 t75,Ld 77 none t76,Mv 78 t5,⟨(some 79),none,.e (.bsr 1 [.int .u32 0] [(0,1,t78)])⟩,Ap 80 1 4 t77 t79,Nc 81 t73,Fa 82 34 t81,Sxn 1 t82 t80] [[],[],[1],[2],[3],[],[5],[4,6],[0,0,1,2,3,4,5,6,7],[8,0,1,2,3,4,5,6,7],[9,7,7,0,1,2,3,4,5,6,7]] [(0,[]),(1,[]),(2,[]),(3,[]),(4,[]),(5,[]),(6,[0,1,2,3,4]),(7,[0]),(8,[]),(9,[]),(10,[])]
abbrev C61_33 := Ro [Mv 83 t6,As 4 t83]
abbrev C61_34 := Sq [4] C61_33 .ret
abbrev C61_35 := Sq [6] C61_32 C61_34
abbrev C61_36 := Sq [2,5,6] C61_31 C61_35
abbrev C61_37 := Sq [2,3,5,6,7] C61_2 C61_36
abbrev C61_38 := Sq [2,3,5,6] C61_1 C61_37
abbrev C61_39 := Sq [2,3] C61_0 C61_38
abbrev C61 := C61_39
abbrev C61r : List RV := [.t 4]
theorem C61ok : Okf Tryz.prog 61 Tryz.f61 C61 C61r := ⟨Tryz.func61, by kernel_rfl, by kernel_rfl, by kernel_rfl⟩

/-- (*mimesis/eval.frame).leave -/
abbrev C62_0 := Ro [Al 4 [z4,z4,z4,z4,z4,z4,z4,z4,z4,z4,z4,z4,z4,z4,z4,z4,z4,z4,z4,z4,z4,z4,z4,z4,z4,z4,z4,z4,z4,z4,z4,z4,z4,zi,zi,zi]]
abbrev C62_1 := Ro [Mv 9 t0,Nc 10 t9,Fa 11 0 t10,Ld 12 none t11,Nc 13 t12,Fa 14 2 t13,Ld 15 none t14,Mv 16 t1,Ix 17 5 t15 t16,Ld 18 (some 5) t17,Al 5 [zi,z4,zi,zi,.nils],Sxn 5 t5 t18]
abbrev C62_2 := Dr [Mv 19 t0,Nc 20 t19,Fa 21 1 t20,Ld 22 (some 32) t21,Fa 23 1 t5,Ld 24 none t23,Fa 25 0 t5,Ld 26 none t25,Fa 27 3 t5,Ld 28 none t27,Mv 29 t1,⟨(some 30),none,.r (.bld [z4,z4,z4,z4,z4,z4,z4,z4,z4,z4,z4,z4,z4,z4,z4,z4,z4,z4,z4,z4,z4,z4,z4,z4,z4,z4,z4,z4,z4,z4,z4,z4,z4,zi,zi,zi] [(0,32,t22),(32,1,t24),(33,1,t26),(34,1,t28),(35,1,t29)])⟩,Al 6 [z4,z4,z4,z4,z4,z4,z4,z4,z4,z4,z4,z4,z4,z4,z4,z4,z4,z4,z4,z4,z4,z4,z4,z4,z4,z4,z4,z4,z4,z4,z4,z4,z4,zi,zi,zi],Sxn 36 t6 t30] [[],[0],[1],[2],[],[4],[],[6],[],[8],[],[3,5,7,9,10],[],[12,11,0,1,2,3,4,5,6,7,8,9,10,11,12]] [(0,[]),(1,[]),(2,[]),(3,[]),(4,[]),(5,[]),(6,[]),(7,[]),(8,[]),(9,[]),(10,[]),(11,[]),(12,[0,1,2,3,4,5,6,7,8,9,10,11]),(13,[])]
abbrev C62_3 := Ro [Fa 31 4 t5,Ld 32 none t31,Ln 33 t32,Mv 34 (kI 0)]
abbrev C62_4 := Ro [Bn 35 .lss t34 t33]
abbrev C62_5 := Cd t35 .skip (.exit 0)
abbrev C62_6 := Ro [Ix 36 2 t32 t34,Ld 37 (some 2) t36,Al 8 [.int .i64 0,.int .i64 0],Sxn 2 t8 t37]
abbrev C62_7 := Dr [Fa 38 0 t8,Ld 39 none t38,Mv 40 t0,Nc 41 t40,Fa 42 34 t41,Ld 43 none t42,Fa 44 1 t8,Ld 45 none t44,Ix 46 1 t43 t45,Ld 47 none t46,Fa 48 0 t6,⟨(some 49),none,.r (.ixa 32 1 t48 t39)⟩,Sxn 1 t49 t47] [[],[0],[],[2],[3],[4],[],[6],[5,7],[8],[],[10,1,0,1,2,3,4,5,6,7,8,9],[11,9,0,1,2,3,4,5,6,7,8,9]] [(0,[]),(1,[]),(2,[]),(3,[]),(4,[]),(5,[]),(6,[]),(7,[]),(8,[]),(9,[]),(10,[]),(11,[]),(12,[])]
abbrev C62_8 : ACode := .fz 8 C62_7
abbrev C62_9 := Sq [0,4,5,6,8,32,33,34] C62_6 C62_8
abbrev C62_10 := Bk 1 C62_9
abbrev C62_11 := Ro [Bn 50 .add t34 (kI 1),Mv 34 t50]
abbrev C62_12 := Sq [0,4,5,6,32,33,34] C62_10 C62_11
abbrev C62_13 := Sq [0,4,5,6,32,33,34] C62_5 C62_12
abbrev C62_14 := Sq [0,4,5,6,32,33,34,35] C62_4 C62_13
abbrev C62_15 : ACode := .loop C62_14
abbrev C62_16 := Bk 0 C62_15
abbrev C62_17 := Sq [0,4,5,6,32,33,34] C62_3 C62_16
abbrev C62_18 := Ro [Fa 51 2 t5,Ld 52 none t51,Bn 53 .neq t52 (kI (-1))]
abbrev C62_19 := Dr [Mv 54 t0,Nc 55 t54,Fa 56 34 t55,Ld 57 none t56,Fa 58 2 t5,Ld 59 none t58,Ix 60 1 t57 t59,Ld 61 none t60,Fa 62 32 t6,Sxn 1 t62 t61] [[],[0],[1],[2],[],[4],[3,5],[6],[0,1,2,3,4,5,6,7],[8,7,0,1,2,3,4,5,6,7]] [(0,[]),(1,[]),(2,[]),(3,[]),(4,[]),(5,[]),(6,[]),(7,[]),(8,[]),(9,[])]
abbrev C62_20 := Cd t53 C62_19 .skip
abbrev C62_21 := Sq [0,4,5,6,53] C62_18 C62_20
abbrev C62_22 := Ro [Ld 63 (some 36) t6,Sxn 36 t4 t63]
abbrev C62_23 := Sq [4] C62_22 .ret
abbrev C62_24 := Sq [4,6] C62_21 C62_23
abbrev C62_25 := Sq [0,4,5,6] C62_17 C62_24
abbrev C62_26 := Sq [0,4,5,6] C62_2 C62_25
abbrev C62_27 : ACode := .fz 5 C62_26
abbrev C62_28 := Sq [0,1,4,5] C62_1 C62_27
abbrev C62_29 := Sq [0,1,4] C62_0 C62_28
abbrev C62 := C62_29
abbrev C62r : List RV := [.c 4 (some 36)]
theorem C62ok : Okf Tryz.prog 62 Tryz.f62 C62 C62r := ⟨Tryz.func62, by kernel_rfl, by kernel_rfl, by kernel_rfl⟩

/-- (*mimesis/fifo.Fifo).All -/
abbrev C63_0 := Ro [As 2 kS]
abbrev C63_1 := Ro [Al 3 [.nils]]
abbrev C63_2 := Ro [Mv 5 t0,⟨(some 6),none,.r (.mkf 99 [t5] [])⟩]
abbrev C63_3 := Ro [Ld 12 none t3,As 2 t12]
abbrev C63_4 := Ro [As 4 t7]
abbrev C63_5 := Ro [Ld 8 none t3,Mv 9 t4,⟨(some 10),none,.e (.bsr 1 [.int .u8 0] [(0,1,t9)])⟩,Ap 11 1 1 t8 t10,Sxn 1 t3 t11]
abbrev C63_6 := Bk 1 C63_5
abbrev C63A : List (List Nat × ACode) := [([0,2],C63_0),([0,2,3],C63_1),([2,3,6],C63_2)]
abbrev C63Z : List (List Nat × ACode) := [([2],C63_3),([2],.ret)]
abbrev C63X : ACode := C63_4
abbrev C63 := C63_6
abbrev C63r : List RV := [.t 2]

theorem C63ok : Okr Tryz.prog 63 Tryz.f63 C63A 0 6 [7] C63X C63 C63Z C63r := ⟨Tryz.func63, by kernel_rfl, by kernel_rfl, by kernel_rfl⟩

/-- slices.Clone[[]byte,byte] -/
abbrev C64_0 := Ro [As 2 kS]
abbrev C64_1 := Ro [Mv 3 t0,Nq 4 false t3]
abbrev C64_2 := Ro [As 2 kS]
abbrev C64_3 := Sq [2] C64_2 .ret
abbrev C64_4 := Cd t4 C64_3 .skip
abbrev C64_5 := Sq [0,4] C64_1 C64_4
abbrev C64_6 := Ro [⟨(some 5),none,.e (.bsl 0 [] [])⟩,Mv 6 t0,Ap 7 1 1 t5 t6,As 2 t7]
abbrev C64_7 := Sq [2] C64_6 .ret
abbrev C64_8 := Sq [0] C64_5 C64_7
abbrev C64_9 := Sq [0] C64_0 C64_8
abbrev C64 := C64_9
abbrev C64r : List RV := [.t 2]
theorem C64ok : Okf Tryz.prog 64 Tryz.f64 C64 C64r := ⟨Tryz.func64, by kernel_rfl, by kernel_rfl, by kernel_rfl⟩

/-- mimesis/mimesisref23.Reckons -/
abbrev C65_0 := Ro [As 2 kF]
abbrev C65_1 := Ro [Mv 3 t0,Ca 4 100 [t3],Mv 5 t4,Mvf 6 5 t0,Caf 7 5 101 [t6],Pk 8 t5 kT t7,As 2 t8]
abbrev C65_2 := Sq [2] C65_1 .ret
abbrev C65_3 := Sq [0] C65_0 C65_2
abbrev C65 := C65_3
abbrev C65r : List RV := [.t 2]
theorem C65ok : Okf Tryz.prog 65 Tryz.f65 C65 C65r := ⟨Tryz.func65, by kernel_rfl, by kernel_rfl, by kernel_rfl⟩

/-- mimesis/mimesisref23.Value -/
abbrev C66_0 := Ro [Br 3 t0,As 6 kF]
abbrev C66_1 := Ro [Mv 7 t1,Bn 8 .geq t7 (kI 0),Mv 9 t8,Mvt 10 9 t1,Mvt 11 9 t2,Bnt 12 9 .lss t10 t11,Pk 13 t9 t12 kF,Mv 14 t13,Mvt 15 14 t1,Fat 16 14 1 t3,Ldt 17 14 none t16,Lnt 18 14 t17,Bnt 19 14 .lss t15 t18,Pk 20 t14 t19 kF,Mv 21 t20,Fat 22 21 1 t3,Ldt 23 21 none t22,Mvt 24 21 t1,Ixt 25 21 6 t23 t24,Fat 26 21 0 t25,Ldt 27 21 none t26,Bnt 28 21 .geq t27 (kI 1),Pk 29 t21 t28 kF,Mv 30 t29,Fat 31 30 1 t3,Ldt 32 30 none t31,Mvt 33 30 t1,Ixt 34 30 6 t32 t33,Fat 35 30 0 t34,Ldt 36 30 none t35,Bnt 37 30 .leq t36 (kI 4),Pk 38 t30 t37 kF,As 6 t38]
abbrev C66_2 := Sq [6] C66_1 .ret
abbrev C66_3 := Sq [1,2,3] C66_0 C66_2
abbrev C66 := C66_3
abbrev C66r : List RV := [.t 6]
theorem C66ok : Okf Tryz.prog 66 Tryz.f66 C66 C66r := ⟨Tryz.func66, by kernel_rfl, by kernel_rfl, by kernel_rfl⟩

/-- mimesis/mimesisref02.Loads -/
abbrev C67_0 := Ro [As 2 (kI 0)]
abbrev C67_1 := Ro [Mv 3 t0,Bn 4 .eql t3 (kI 11),Mv 5 t4,Mvf 6 5 t0,Bnf 7 5 .eql t6 (kI 14),Pk 8 t5 kT t7]
abbrev C67_2 := Ro [As 2 (kI 1)]
abbrev C67_3 := Sq [2] C67_2 .ret
abbrev C67_4 := Cd t8 C67_3 .skip
abbrev C67_5 := Sq [0,8] C67_1 C67_4
abbrev C67_6 := Ro [Mv 9 t0,Bn 10 .eql t9 (kI 12),Mv 11 t10,Mvf 12 11 t0,Bnf 13 11 .eql t12 (kI 15),Pk 14 t11 kT t13]
abbrev C67_7 := Ro [As 2 (kI 2)]
abbrev C67_8 := Sq [2] C67_7 .ret
abbrev C67_9 := Cd t14 C67_8 .skip
abbrev C67_10 := Sq [0,14] C67_6 C67_9
abbrev C67_11 := Ro [Mv 15 t0,Bn 16 .eql t15 (kI 13)]
abbrev C67_12 := Ro [As 2 (kI 4)]
abbrev C67_13 := Sq [2] C67_12 .ret
abbrev C67_14 := Cd t16 C67_13 .skip
abbrev C67_15 := Sq [16] C67_11 C67_14
abbrev C67_16 := Ro [As 2 (kI 0)]
abbrev C67_17 := Sq [2] C67_16 .ret
abbrev C67_18 := Sq [] C67_15 C67_17
abbrev C67_19 := Sq [0] C67_10 C67_18
abbrev C67_20 := Sq [0] C67_5 C67_19
abbrev C67_21 := Sq [0] C67_0 C67_20
abbrev C67 := C67_21
abbrev C67r : List RV := [.t 2]
theorem C67ok : Okf Tryz.prog 67 Tryz.f67 C67 C67r := ⟨Tryz.func67, by kernel_rfl, by kernel_rfl, by kernel_rfl⟩

/-- mimesis/mimesisref02.Stores -/
abbrev C68_0 := Ro [As 2 (kI 0)]
abbrev C68_1 := Ro [Mv 3 t0,Bn 4 .eql t3 (kI 16)]
abbrev C68_2 := Ro [As 2 (kI 1)]
abbrev C68_3 := Sq [2] C68_2 .ret
abbrev C68_4 := Cd t4 C68_3 .skip
abbrev C68_5 := Sq [0,4] C68_1 C68_4
abbrev C68_6 := Ro [Mv 5 t0,Bn 6 .eql t5 (kI 17)]
abbrev C68_7 := Ro [As 2 (kI 2)]
abbrev C68_8 := Sq [2] C68_7 .ret
abbrev C68_9 := Cd t6 C68_8 .skip
abbrev C68_10 := Sq [0,6] C68_6 C68_9
abbrev C68_11 := Ro [Mv 7 t0,Bn 8 .eql t7 (kI 18)]
abbrev C68_12 := Ro [As 2 (kI 4)]
abbrev C68_13 := Sq [2] C68_12 .ret
abbrev C68_14 := Cd t8 C68_13 .skip
abbrev C68_15 := Sq [8] C68_11 C68_14
abbrev C68_16 := Ro [As 2 (kI 0)]
abbrev C68_17 := Sq [2] C68_16 .ret
abbrev C68_18 := Sq [] C68_15 C68_17
abbrev C68_19 := Sq [0] C68_10 C68_18
abbrev C68_20 := Sq [0] C68_5 C68_19
abbrev C68_21 := Sq [0] C68_0 C68_20
abbrev C68 := C68_21
abbrev C68r : List RV := [.t 2]
theorem C68ok : Okf Tryz.prog 68 Tryz.f68 C68 C68r := ⟨Tryz.func68, by kernel_rfl, by kernel_rfl, by kernel_rfl⟩

/-- mimesis/mimesisref17.Heard -/
abbrev C69_0 := Ro [Br 2 t0,As 4 (kU 0),As 5 kF]
abbrev C69_1 := Ro [Fa 8 0 t2,Ld 9 none t8,Ca 10 102 [t9,(kI 3)],Bn 11 .eql t10 (kU 0)]
abbrev C69_2 := Ro [As 4 (kU 0),As 5 kF]
abbrev C69_3 := Sq [4,5] C69_2 .ret
abbrev C69_4 := Cd t11 C69_3 .skip
abbrev C69_5 := Sq [1,2,11] C69_1 C69_4
abbrev C69_6 := Ro [⟨(some 12),none,.e (.bsr 3 [.int .i64 0,.int .i64 0,.int .i64 0] [(0,1,(kI 11)),(1,1,(kI 3)),(2,1,(kI 7))])⟩,As 6 t12]
abbrev C69_7 := Ro [As 7 (kI 0)]
abbrev C69_8 := Ro [Mv 13 t7,Bn 14 .lss t13 (kI 3)]
abbrev C69_9 := Cd t14 .skip (.exit 0)
abbrev C69_10 := Sq [1,2,6,7,14] C69_8 C69_9
abbrev C69_11 := Dr [Mv 17 t1,Mv 18 t6,Mv 19 t7,Ix 20 1 t18 t19,Ld 21 none t20,Ca 22 102 [t17,t21],Fa 23 1 t2,Ld 24 none t23,Mv 25 t6,Mv 26 t7,Ix 27 1 t25 t26,Ld 28 none t27,Ca 29 102 [t24,t28],Bn 30 .add t22 t29,Bn 31 .eql t30 (kU 2)] [[],[],[],[1,2],[3],[0,4],[],[6],[],[],[8,9],[10],[7,11,5],[5,12],[13]] [(0,[]),(1,[]),(2,[]),(3,[]),(4,[]),(6,[]),(7,[]),(8,[]),(9,[]),(10,[]),(11,[]),(5,[6,7,8,9,10,11]),(12,[]),(13,[]),(14,[])]
abbrev C69_12 := Ro [Mv 32 t6,Mv 33 t7,Ix 34 1 t32 t33,Ld 35 none t34,Cv 36 .u32 t35,Bn 37 .add (kU 2147483648) t36,As 4 t37,As 5 kT]
abbrev C69_13 := Sq [4,5] C69_12 .ret
abbrev C69_14 := Cd t31 C69_13 .skip
abbrev C69_15 := Sq [1,2,6,7,31] C69_11 C69_14
abbrev C69_16 := Bk 1 C69_15
abbrev C69_17 := Ro [Mv 15 t7,Bn 16 .add t15 (kI 1),As 7 t16]
abbrev C69_18 := Sq [1,2,6,7] C69_16 C69_17
abbrev C69_19 := Sq [1,2,6,7] C69_10 C69_18
abbrev C69_20 : ACode := .loop C69_19
abbrev C69_21 := Bk 0 C69_20
abbrev C69_22 := Sq [1,2,6,7] C69_7 C69_21
abbrev C69_23 := Ro [As 4 (kU 0),As 5 kF]
abbrev C69_24 := Sq [4,5] C69_23 .ret
abbrev C69_25 := Sq [] C69_22 C69_24
abbrev C69_26 := Sq [1,2,6] C69_6 C69_25
abbrev C69_27 := Sq [1,2] C69_5 C69_26
abbrev C69_28 := Sq [1,2] C69_0 C69_27
abbrev C69 := C69_28
abbrev C69r : List RV := [.t 4,.t 5]
theorem C69ok : Okf Tryz.prog 69 Tryz.f69 C69 C69r := ⟨Tryz.func69, by kernel_rfl, by kernel_rfl, by kernel_rfl⟩

/-- mimesis/mimesisref25.calls -/
abbrev C70_0 := Ro [⟨(some 2),none,.e (.box t0)⟩,As 4 (kU 0)]
abbrev C70_1 := Ro [Fa 6 44 t2,Fa 7 1 t6,Fa 8 1 t7,Ld 9 none t8,As 5 t9]
abbrev C70_2 := Ro [Mv 10 t5,Fa 11 44 t2,Fa 12 1 t11,Fa 13 0 t12,Ld 14 none t13,Ln 15 t14,Bn 16 .lss t10 t15]
abbrev C70_3 := Cd t16 .skip (.exit 0)
abbrev C70_4 := Sq [1,2,5,16] C70_2 C70_3
abbrev C70_5 := Ro [Fa 19 44 t2,Fa 20 1 t19,Fa 21 0 t20,Ld 22 none t21,Mv 23 t5,Ix 24 2 t22 t23,Fa 25 0 t24,Ld 26 none t25,Mv 27 t1,Bn 28 .leq t26 t27]
abbrev C70_6 := Ro [⟨(some 29),none,.e (.bsr 1 [.int .u8 0] [(0,1,(kY 1))])⟩,Fa 30 44 t2,Fa 31 1 t30,Fa 32 2 t31,Sxn 1 t32 t29]
abbrev C70_7 := Cd t28 C70_6 .skip
abbrev C70_8 := Sq [1,2,5,28] C70_5 C70_7
abbrev C70_9 := Bk 1 C70_8
abbrev C70_10 := Ro [Mv 17 t5,Bn 18 .add t17 (kI 1),As 5 t18]
abbrev C70_11 := Sq [1,2,5] C70_9 C70_10
abbrev C70_12 := Sq [1,2,5] C70_4 C70_11
abbrev C70_13 : ACode := .loop C70_12
abbrev C70_14 := Bk 0 C70_13
abbrev C70_15 := Sq [1,2,5] C70_1 C70_14
abbrev C70_16 := Ro [Fa 33 44 t2,Ld 34 (some 11) t33,Mv 35 t1,Ca 36 103 [t34,t35],As 4 t36]
abbrev C70_17 := Sq [4] C70_16 .ret
abbrev C70_18 := Sq [1,2] C70_15 C70_17
abbrev C70_19 := Sq [1,2] C70_0 C70_18
abbrev C70 := C70_19
abbrev C70r : List RV := [.t 4]
theorem C70ok : Okf Tryz.prog 70 Tryz.f70 C70 C70r := ⟨Tryz.func70, by kernel_rfl, by kernel_rfl, by kernel_rfl⟩

/-- mimesis/mimesisref24.Reckon -/
abbrev C71_0 := Ro [As 6 (kU 0)]
abbrev C71_1 := Ro [Mv 7 t0,Ca 8 101 [t7]]
abbrev C71_2 := Ro [Mv 9 t0,Mv 10 t1,Mv 11 t2,Ca 12 104 [t9,t10,t11],As 6 t12]
abbrev C71_3 := Sq [6] C71_2 .ret
abbrev C71_4 := Cd t8 C71_3 .skip
abbrev C71_5 := Sq [0,1,2,8] C71_1 C71_4
abbrev C71_6 := Ro [Mv 13 t0,Mv 14 t1,Mv 15 t2,Ca 16 105 [t13,t14,t15],As 6 t16]
abbrev C71_7 := Sq [6] C71_6 .ret
abbrev C71_8 := Sq [0,1,2] C71_5 C71_7
abbrev C71_9 := Sq [0,1,2] C71_0 C71_8
abbrev C71 := C71_9
abbrev C71r : List RV := [.t 6]
theorem C71ok : Okf Tryz.prog 71 Tryz.f71 C71 C71r := ⟨Tryz.func71, by kernel_rfl, by kernel_rfl, by kernel_rfl⟩

/-- mimesis/mimesisref10.Asked -/
abbrev C72_0 := Ro [As 6 (kI 0)]
abbrev C72_1 := Ro [Mv 7 t2,Ca 8 106 [t7],Un 9 .not t8]
abbrev C72_2 := Ro [As 6 (kI 2)]
abbrev C72_3 := Sq [6] C72_2 .ret
abbrev C72_4 := Cd t9 C72_3 .skip
abbrev C72_5 := Sq [0,1,2,9] C72_1 C72_4
abbrev C72_6 := Ro [Mv 10 t1,Cv 11 .i64 t10,Mv 12 t2,Bn 13 .rem t11 t12,Bn 14 .neq t13 (kI 0)]
abbrev C72_7 := Ro [As 6 (kI 5)]
abbrev C72_8 := Sq [6] C72_7 .ret
abbrev C72_9 := Cd t14 C72_8 .skip
abbrev C72_10 := Sq [0,1,2,14] C72_6 C72_9
abbrev C72_11 := Ro [Mv 15 t0,Mv 16 t1,Mv 17 t2,Ca 18 107 [t15,t16,t17],Un 19 .not t18]
abbrev C72_12 := Ro [As 6 (kI 6)]
abbrev C72_13 := Sq [6] C72_12 .ret
abbrev C72_14 := Cd t19 C72_13 .skip
abbrev C72_15 := Sq [19] C72_11 C72_14
abbrev C72_16 := Ro [As 6 (kI 0)]
abbrev C72_17 := Sq [6] C72_16 .ret
abbrev C72_18 := Sq [] C72_15 C72_17
abbrev C72_19 := Sq [0,1,2] C72_10 C72_18
abbrev C72_20 := Sq [0,1,2] C72_5 C72_19
abbrev C72_21 := Sq [0,1,2] C72_0 C72_20
abbrev C72 := C72_21
abbrev C72r : List RV := [.t 6]
theorem C72ok : Okf Tryz.prog 72 Tryz.f72 C72 C72r := ⟨Tryz.func72, by kernel_rfl, by kernel_rfl, by kernel_rfl⟩

/-- mimesis/mimesisref24.leave -/
abbrev C73_0 := Ro [Br 5 t0,Br 7 t2,Br 9 t4,Al 10 [z4,z4,z4,z4,z4,z4,z4,z4,z4,z4,z4,z4,z4,z4,z4,z4,z4,z4,z4,z4,z4,z4,z4,z4,z4,z4,z4,z4,z4,z4,z4,z4,z4,zi,zi,zi,.nils,.nils,.nils]]
abbrev C73_1 := Ro [Fa 14 2 t5,Ld 15 none t14,Mv 16 t1,Ix 17 5 t15 t16,Ld 18 (some 5) t17,Al 11 [zi,z4,zi,zi,.nils],Sxn 5 t11 t18]
abbrev C73_2 := Ro [Ld 19 (some 32) t7,Fa 20 1 t11,Ld 21 none t20,Fa 22 0 t11,Ld 23 none t22,Fa 24 3 t11,Ld 25 none t24,Mv 26 t1,Ld 27 (some 3) t9,⟨(some 28),none,.r (.bld [z4,z4,z4,z4,z4,z4,z4,z4,z4,z4,z4,z4,z4,z4,z4,z4,z4,z4,z4,z4,z4,z4,z4,z4,z4,z4,z4,z4,z4,z4,z4,z4,z4,zi,zi,zi,.nils,.nils,.nils] [(0,32,t19),(32,1,t21),(33,1,t23),(34,1,t25),(35,1,t26),(36,3,t27)])⟩,Al 12 [z4,z4,z4,z4,z4,z4,z4,z4,z4,z4,z4,z4,z4,z4,z4,z4,z4,z4,z4,z4,z4,z4,z4,z4,z4,z4,z4,z4,z4,z4,z4,z4,z4,zi,zi,zi,.nils,.nils,.nils],Sxn 39 t12 t28]
abbrev C73_3 := Ro [As 13 (kI 0)]
abbrev C73_4 := Ro [Mv 29 t13,Fa 30 4 t11,Ld 31 none t30,Ln 32 t31,Bn 33 .lss t29 t32]
abbrev C73_5 := Cd t33 .skip (.exit 0)
abbrev C73_6 := Sq [3,10,11,12,13,33] C73_4 C73_5
abbrev C73_7 := Dr [Fa 36 4 t11,Ld 37 none t36,Mv 38 t13,Ix 39 2 t37 t38,Fa 40 0 t39,Ld 41 none t40,Mv 42 t3,Fa 43 4 t11,Ld 44 none t43,Mv 45 t13,Ix 46 2 t44 t45,Fa 47 1 t46,Ld 48 none t47,Ix 49 1 t42 t48,Ld 50 none t49,Fa 51 0 t12,⟨(some 52),none,.r (.ixa 32 1 t51 t41)⟩,Sxn 1 t52 t50] [[],[0],[],[1,2],[3],[4],[],[],[7],[],[8,9],[10],[11],[6,12],[13],[],[15,5,0,1,2,3,4,5,6,7,8,9,10,11,12,13,14],[16,14,0,1,2,3,4,5,6,7,8,9,10,11,12,13,14]] [(0,[]),(1,[]),(2,[]),(3,[]),(4,[]),(5,[]),(6,[]),(7,[]),(8,[]),(9,[]),(10,[]),(11,[]),(12,[]),(13,[]),(14,[]),(15,[]),(16,[]),(17,[])]
abbrev C73_8 := Bk 1 C73_7
abbrev C73_9 := Ro [Mv 34 t13,Bn 35 .add t34 (kI 1),As 13 t35]
abbrev C73_10 := Sq [3,10,11,12,13] C73_8 C73_9
abbrev C73_11 := Sq [3,10,11,12,13] C73_6 C73_10
abbrev C73_12 : ACode := .loop C73_11
abbrev C73_13 := Bk 0 C73_12
abbrev C73_14 := Sq [3,10,11,12,13] C73_3 C73_13
abbrev C73_15 := Ro [Fa 53 2 t11,Ld 54 none t53,Bn 55 .neq t54 (kI (-1))]
abbrev C73_16 := Ro [Mv 56 t3,Fa 57 2 t11,Ld 58 none t57,Ix 59 1 t56 t58,Ld 60 none t59,Fa 61 32 t12,Sxn 1 t61 t60]
abbrev C73_17 := Cd t55 C73_16 .skip
abbrev C73_18 := Sq [3,10,11,12,55] C73_15 C73_17
abbrev C73_19 := Ro [Ld 62 (some 39) t12,Sxn 39 t10 t62]
abbrev C73_20 := Sq [10] C73_19 .ret
abbrev C73_21 := Sq [10,12] C73_18 C73_20
abbrev C73_22 := Sq [3,10,11,12] C73_14 C73_21
abbrev C73_23 := Sq [3,10,11,12] C73_2 C73_22
abbrev C73_24 : ACode := .fz 11 C73_23
abbrev C73_25 := Sq [1,3,7,9,10,11] C73_1 C73_24
abbrev C73_26 := Sq [1,3,5,7,9,10] C73_0 C73_25
abbrev C73 := C73_26
abbrev C73r : List RV := [.c 10 (some 39)]
theorem C73ok : Okf Tryz.prog 73 Tryz.f73 C73 C73r := ⟨Tryz.func73, by kernel_rfl, by kernel_rfl, by kernel_rfl⟩

/-- mimesis/mimesisref10.Load -/
abbrev C74_0 := Ro [As 6 (kU 0)]
abbrev C74_1 := Ro [Mv 8 t1,Cv 9 .i64 t8,Bn 10 .sub t9 (kI 2147483648),As 7 t10]
abbrev C74_2 := Ro [Mv 11 t0,Mv 12 t7,Mv 13 t7,Mv 14 t2,Bn 15 .add t13 t14,⟨(some 16),none,.r (.sls 1 t11 (some t12) (some t15))⟩,Ca 17 108 [t16],As 6 t17]
abbrev C74_3 := Sq [6] C74_2 .ret
abbrev C74_4 := Sq [0,2,7] C74_1 C74_3
abbrev C74_5 := Sq [0,1,2] C74_0 C74_4
abbrev C74 := C74_5
abbrev C74r : List RV := [.t 6]
theorem C74ok : Okf Tryz.prog 74 Tryz.f74 C74 C74r := ⟨Tryz.func74, by kernel_rfl, by kernel_rfl, by kernel_rfl⟩

/-- mimesis/mimesisref01.Extend -/
abbrev C75_0 := Ro [As 4 (kU 0)]
abbrev C75_1 := Ro [Mv 6 t0,Cv 7 .u64 t6,Mv 8 t1,Ca 9 109 [t8],Bn 10 .rem t7 t9,As 5 t10]
abbrev C75_2 := Ro [Mv 11 t5,Mv 12 t1,Bn 13 .sub t12 (kI 1),Ca 14 109 [t13],Bn 15 .geq t11 t14]
abbrev C75_3 := Ro [Mv 16 t5,Ca 17 109 [(kI 32)],Bn 18 .add t16 t17,Mv 19 t1,Ca 20 109 [t19],Bn 21 .sub t18 t20,As 5 t21]
abbrev C75_4 := Cd t15 C75_3 .skip
abbrev C75_5 := Sq [1,5,15] C75_2 C75_4
abbrev C75_6 := Ro [Mv 22 t5,Cv 23 .u32 t22,As 4 t23]
abbrev C75_7 := Sq [4] C75_6 .ret
abbrev C75_8 := Sq [5] C75_5 C75_7
abbrev C75_9 := Sq [1,5] C75_1 C75_8
abbrev C75_10 := Sq [0,1] C75_0 C75_9
abbrev C75 := C75_10
abbrev C75r : List RV := [.t 4]
theorem C75ok : Okf Tryz.prog 75 Tryz.f75 C75 C75r := ⟨Tryz.func75, by kernel_rfl, by kernel_rfl, by kernel_rfl⟩
end Go.Ab
end
section
/- The code of some functions, with what their types tell written out; each is what the translation gives (kernel_rfl). Printed by mk.py out of the translation. -/
namespace Go.Ab
open Go.Proofs Go.Sc
set_option maxRecDepth 100000
/-- mimesis/mimesisref10.Store -/
abbrev C76_0 := Ro [Br 4 t0,Al 8 [.nils,.nils,.nils],As 9 kF]
abbrev C76_1 : ACode := .dregt [Fa 12 0 t4,Ld 13 none t12,Mv 14 t1,Mv 15 t3,Mv 16 t2,Ca 17 110 [t15,t16],Ca 18 88 [t13,t14,t17],⟨(some 19),none,.e (.bsl 0 [] [])⟩,Fa 20 1 t4,Ld 21 none t20,Ap 22 1 1 t19 t21,⟨(some 23),none,.e (.bsl 0 [] [])⟩,Fa 24 2 t4,Ld 25 none t24,Ap 26 1 8 t23 t25,⟨(some 27),none,.r (.bld [.nils,.nils,.nils] [(0,1,t18),(1,1,t22),(2,1,t26)])⟩,Al 10 [.nils,.nils,.nils],Sxn 3 t10 t27] [[],[0],[],[],[],[3,4],[1,2,5,5],[],[],[8],[7,9,6],[],[],[12],[11,13,10],[6,10,14],[],[16,15,14,0,1,2,3,4,5,6,7,8,9,10,11,12,13,14,15,16]] (.r 0 (.r 1 (.r 2 (.r 3 (.r 4 (.r 8 (.r 9 (.r 12 (.r 13 (.e 5 [0,1,2,8,9,12,13] (.e 6 [8,9,12,13] (.e 7 [0,1,2,3,4,8,9,12,13] (.e 10 [12,13] (.e 11 [0,1,2,3,4,8,9,12,13] (.e 14 [] (.r 15 (.e 16 [0,1,2,3,4,8,9,12,13,15] (.e 17 [] .nil .nil) .nil)) (.e 16 [0,1,2,3,4,8,9,12,13] (.e 14 [] (.r 15 (.e 17 [] .nil .nil)) .nil) .nil)) (.e 16 [0,1,2,3,4,8,9,12,13] (.e 11 [0,1,2,3,4,8,9,12,13] (.e 14 [] (.r 15 (.e 17 [] .nil .nil)) .nil) .nil) .nil)) (.e 11 [0,1,2,3,4,8,9,12,13] (.e 10 [12,13] (.e 14 [] (.r 15 (.e 16 [0,1,2,3,4,8,9,12,13,15] (.e 17 [] .nil .nil) .nil)) (.e 16 [0,1,2,3,4,8,9,12,13] (.e 14 [] (.r 15 (.e 17 [] .nil .nil)) .nil) .nil)) (.e 16 [0,1,2,3,4,8,9,12,13] (.e 10 [12,13] (.e 14 [] (.r 15 (.e 17 [] .nil .nil)) .nil) .nil) .nil)) (.e 16 [0,1,2,3,4,8,9,12,13] (.e 10 [12,13] (.e 11 [0,1,2,3,4,8,9,12,13] (.e 14 [] (.r 15 (.e 17 [] .nil .nil)) .nil) .nil) (.e 11 [0,1,2,3,4,8,9,12,13] (.e 10 [12,13] (.e 14 [] (.r 15 (.e 17 [] .nil .nil)) .nil) .nil) .nil)) .nil))) (.e 11 [0,1,2,3,4,8,9,12,13] (.e 7 [0,1,2,3,4,8,9,12,13] (.e 10 [12,13] (.e 14 [] (.r 15 (.e 16 [0,1,2,3,4,8,9,12,13,15] (.e 17 [] .nil .nil) .nil)) (.e 16 [0,1,2,3,4,8,9,12,13] (.e 14 [] (.r 15 (.e 17 [] .nil .nil)) .nil) .nil)) (.e 16 [0,1,2,3,4,8,9,12,13] (.e 10 [12,13] (.e 14 [] (.r 15 (.e 17 [] .nil .nil)) .nil) .nil) .nil)) (.e 16 [0,1,2,3,4,8,9,12,13] (.e 7 [0,1,2,3,4,8,9,12,13] (.e 10 [12,13] (.e 14 [] (.r 15 (.e 17 [] .nil .nil)) .nil) .nil) .nil) .nil)) (.e 16 [0,1,2,3,4,8,9,12,13] (.e 7 [0,1,2,3,4,8,9,12,13] (.e 10 [12,13] (.e 11 [0,1,2,3,4,8,9,12,13] (.e 14 [] (.r 15 (.e 17 [] .nil .nil)) .nil) .nil) (.e 11 [0,1,2,3,4,8,9,12,13] (.e 10 [12,13] (.e 14 [] (.r 15 (.e 17 [] .nil .nil)) .nil) .nil) .nil)) (.e 11 [0,1,2,3,4,8,9,12,13] (.e 7 [0,1,2,3,4,8,9,12,13] (.e 10 [12,13] (.e 14 [] (.r 15 (.e 17 [] .nil .nil)) .nil) .nil) .nil) .nil)) .nil))) (.e 7 [0,1,2,3,4,8,9,12,13] (.e 6 [8,9,12,13] (.e 10 [12,13] (.e 11 [0,1,2,3,4,8,9,12,13] (.e 14 [] (.r 15 (.e 16 [0,1,2,3,4,8,9,12,13,15] (.e 17 [] .nil .nil) .nil)) (.e 16 [0,1,2,3,4,8,9,12,13] (.e 14 [] (.r 15 (.e 17 [] .nil .nil)) .nil) .nil)) (.e 16 [0,1,2,3,4,8,9,12,13] (.e 11 [0,1,2,3,4,8,9,12,13] (.e 14 [] (.r 15 (.e 17 [] .nil .nil)) .nil) .nil) .nil)) (.e 11 [0,1,2,3,4,8,9,12,13] (.e 10 [12,13] (.e 14 [] (.r 15 (.e 16 [0,1,2,3,4,8,9,12,13,15] (.e 17 [] .nil .nil) .nil)) (.e 16 [0,1,2,3,4,8,9,12,13] (.e 14 [] (.r 15 (.e 17 [] .nil .nil)) .nil) .nil)) (.e 16 [0,1,2,3,4,8,9,12,13] (.e 10 [12,13] (.e 14 [] (.r 15 (.e 17 [] .nil .nil)) .nil) .nil) .nil)) (.e 16 [0,1,2,3,4,8,9,12,13] (.e 10 [12,13] (.e 11 [0,1,2,3,4,8,9,12,13] (.e 14 [] (.r 15 (.e 17 [] .nil .nil)) .nil) .nil) (.e 11 [0,1,2,3,4,8,9,12,13] (.e 10 [12,13] (.e 14 [] (.r 15 (.e 17 [] .nil .nil)) .nil) .nil) .nil)) .nil))) (.e 11 [0,1,2,3,4,8,9,12,13] (.e 6 [8,9,12,13] (.e 10 [12,13] (.e 14 [] (.r 15 (.e 16 [0,1,2,3,4,8,9,12,13,15] (.e 17 [] .nil .nil) .nil)) (.e 16 [0,1,2,3,4,8,9,12,13] (.e 14 [] (.r 15 (.e 17 [] .nil .nil)) .nil) .nil)) (.e 16 [0,1,2,3,4,8,9,12,13] (.e 10 [12,13] (.e 14 [] (.r 15 (.e 17 [] .nil .nil)) .nil) .nil) .nil)) (.e 16 [0,1,2,3,4,8,9,12,13] (.e 6 [8,9,12,13] (.e 10 [12,13] (.e 14 [] (.r 15 (.e 17 [] .nil .nil)) .nil) .nil) .nil) .nil)) (.e 16 [0,1,2,3,4,8,9,12,13] (.e 6 [8,9,12,13] (.e 10 [12,13] (.e 11 [0,1,2,3,4,8,9,12,13] (.e 14 [] (.r 15 (.e 17 [] .nil .nil)) .nil) .nil) (.e 11 [0,1,2,3,4,8,9,12,13] (.e 10 [12,13] (.e 14 [] (.r 15 (.e 17 [] .nil .nil)) .nil) .nil) .nil)) (.e 11 [0,1,2,3,4,8,9,12,13] (.e 6 [8,9,12,13] (.e 10 [12,13] (.e 14 [] (.r 15 (.e 17 [] .nil .nil)) .nil) .nil) .nil) .nil)) .nil))) (.e 11 [0,1,2,3,4,8,9,12,13] (.e 6 [8,9,12,13] (.e 7 [0,1,2,3,4,8,9,12,13] (.e 10 [12,13] (.e 14 [] (.r 15 (.e 16 [0,1,2,3,4,8,9,12,13,15] (.e 17 [] .nil .nil) .nil)) (.e 16 [0,1,2,3,4,8,9,12,13] (.e 14 [] (.r 15 (.e 17 [] .nil .nil)) .nil) .nil)) (.e 16 [0,1,2,3,4,8,9,12,13] (.e 10 [12,13] (.e 14 [] (.r 15 (.e 17 [] .nil .nil)) .nil) .nil) .nil)) (.e 16 [0,1,2,3,4,8,9,12,13] (.e 7 [0,1,2,3,4,8,9,12,13] (.e 10 [12,13] (.e 14 [] (.r 15 (.e 17 [] .nil .nil)) .nil) .nil) .nil) .nil)) (.e 7 [0,1,2,3,4,8,9,12,13] (.e 6 [8,9,12,13] (.e 10 [12,13] (.e 14 [] (.r 15 (.e 16 [0,1,2,3,4,8,9,12,13,15] (.e 17 [] .nil .nil) .nil)) (.e 16 [0,1,2,3,4,8,9,12,13] (.e 14 [] (.r 15 (.e 17 [] .nil .nil)) .nil) .nil)) (.e 16 [0,1,2,3,4,8,9,12,13] (.e 10 [12,13] (.e 14 [] (.r 15 (.e 17 [] .nil .nil)) .nil) .nil) .nil)) (.e 16 [0,1,2,3,4,8,9,12,13] (.e 6 [8,9,12,13] (.e 10 [12,13] (.e 14 [] (.r 15 (.e 17 [] .nil .nil)) .nil) .nil) .nil) .nil)) (.e 16 [0,1,2,3,4,8,9,12,13] (.e 6 [8,9,12,13] (.e 7 [0,1,2,3,4,8,9,12,13] (.e 10 [12,13] (.e 14 [] (.r 15 (.e 17 [] .nil .nil)) .nil) .nil) .nil) (.e 7 [0,1,2,3,4,8,9,12,13] (.e 6 [8,9,12,13] (.e 10 [12,13] (.e 14 [] (.r 15 (.e 17 [] .nil .nil)) .nil) .nil) .nil) .nil)) .nil))) (.e 16 [0,1,2,3,4,8,9,12,13] (.e 6 [8,9,12,13] (.e 7 [0,1,2,3,4,8,9,12,13] (.e 10 [12,13] (.e 11 [0,1,2,3,4,8,9,12,13] (.e 14 [] (.r 15 (.e 17 [] .nil .nil)) .nil) .nil) (.e 11 [0,1,2,3,4,8,9,12,13] (.e 10 [12,13] (.e 14 [] (.r 15 (.e 17 [] .nil .nil)) .nil) .nil) .nil)) (.e 11 [0,1,2,3,4,8,9,12,13] (.e 7 [0,1,2,3,4,8,9,12,13] (.e 10 [12,13] (.e 14 [] (.r 15 (.e 17 [] .nil .nil)) .nil) .nil) .nil) .nil)) (.e 7 [0,1,2,3,4,8,9,12,13] (.e 6 [8,9,12,13] (.e 10 [12,13] (.e 11 [0,1,2,3,4,8,9,12,13] (.e 14 [] (.r 15 (.e 17 [] .nil .nil)) .nil) .nil) (.e 11 [0,1,2,3,4,8,9,12,13] (.e 10 [12,13] (.e 14 [] (.r 15 (.e 17 [] .nil .nil)) .nil) .nil) .nil)) (.e 11 [0,1,2,3,4,8,9,12,13] (.e 6 [8,9,12,13] (.e 10 [12,13] (.e 14 [] (.r 15 (.e 17 [] .nil .nil)) .nil) .nil) .nil) .nil)) (.e 11 [0,1,2,3,4,8,9,12,13] (.e 6 [8,9,12,13] (.e 7 [0,1,2,3,4,8,9,12,13] (.e 10 [12,13] (.e 14 [] (.r 15 (.e 17 [] .nil .nil)) .nil) .nil) .nil) (.e 7 [0,1,2,3,4,8,9,12,13] (.e 6 [8,9,12,13] (.e 10 [12,13] (.e 14 [] (.r 15 (.e 17 [] .nil .nil)) .nil) .nil) .nil) .nil)) .nil))) .nil)))) (.e 7 [0,1,2,3,4,8,9,12,13] (.e 5 [0,1,2,8,9,12,13] (.e 6 [8,9,12,13] (.e 10 [12,13] (.e 11 [0,1,2,3,4,8,9,12,13] (.e 14 [] (.r 15 (.e 16 [0,1,2,3,4,8,9,12,13,15] (.e 17 [] .nil .nil) .nil)) (.e 16 [0,1,2,3,4,8,9,12,13] (.e 14 [] (.r 15 (.e 17 [] .nil .nil)) .nil) .nil)) (.e 16 [0,1,2,3,4,8,9,12,13] (.e 11 [0,1,2,3,4,8,9,12,13] (.e 14 [] (.r 15 (.e 17 [] .nil .nil)) .nil) .nil) .nil)) (.e 11 [0,1,2,3,4,8,9,12,13] (.e 10 [12,13] (.e 14 [] (.r 15 (.e 16 [0,1,2,3,4,8,9,12,13,15] (.e 17 [] .nil .nil) .nil)) (.e 16 [0,1,2,3,4,8,9,12,13] (.e 14 [] (.r 15 (.e 17 [] .nil .nil)) .nil) .nil)) (.e 16 [0,1,2,3,4,8,9,12,13] (.e 10 [12,13] (.e 14 [] (.r 15 (.e 17 [] .nil .nil)) .nil) .nil) .nil)) (.e 16 [0,1,2,3,4,8,9,12,13] (.e 10 [12,13] (.e 11 [0,1,2,3,4,8,9,12,13] (.e 14 [] (.r 15 (.e 17 [] .nil .nil)) .nil) .nil) (.e 11 [0,1,2,3,4,8,9,12,13] (.e 10 [12,13] (.e 14 [] (.r 15 (.e 17 [] .nil .nil)) .nil) .nil) .nil)) .nil))) (.e 11 [0,1,2,3,4,8,9,12,13] (.e 6 [8,9,12,13] (.e 10 [12,13] (.e 14 [] (.r 15 (.e 16 [0,1,2,3,4,8,9,12,13,15] (.e 17 [] .nil .nil) .nil)) (.e 16 [0,1,2,3,4,8,9,12,13] (.e 14 [] (.r 15 (.e 17 [] .nil .nil)) .nil) .nil)) (.e 16 [0,1,2,3,4,8,9,12,13] (.e 10 [12,13] (.e 14 [] (.r 15 (.e 17 [] .nil .nil)) .nil) .nil) .nil)) (.e 16 [0,1,2,3,4,8,9,12,13] (.e 6 [8,9,12,13] (.e 10 [12,13] (.e 14 [] (.r 15 (.e 17 [] .nil .nil)) .nil) .nil) .nil) .nil)) (.e 16 [0,1,2,3,4,8,9,12,13] (.e 6 [8,9,12,13] (.e 10 [12,13] (.e 11 [0,1,2,3,4,8,9,12,13] (.e 14 [] (.r 15 (.e 17 [] .nil .nil)) .nil) .nil) (.e 11 [0,1,2,3,4,8,9,12,13] (.e 10 [12,13] (.e 14 [] (.r 15 (.e 17 [] .nil .nil)) .nil) .nil) .nil)) (.e 11 [0,1,2,3,4,8,9,12,13] (.e 6 [8,9,12,13] (.e 10 [12,13] (.e 14 [] (.r 15 (.e 17 [] .nil .nil)) .nil) .nil) .nil) .nil)) .nil))) (.e 11 [0,1,2,3,4,8,9,12,13] (.e 5 [0,1,2,8,9,12,13] (.e 6 [8,9,12,13] (.e 10 [12,13] (.e 14 [] (.r 15 (.e 16 [0,1,2,3,4,8,9,12,13,15] (.e 17 [] .nil .nil) .nil)) (.e 16 [0,1,2,3,4,8,9,12,13] (.e 14 [] (.r 15 (.e 17 [] .nil .nil)) .nil) .nil)) (.e 16 [0,1,2,3,4,8,9,12,13] (.e 10 [12,13] (.e 14 [] (.r 15 (.e 17 [] .nil .nil)) .nil) .nil) .nil)) (.e 16 [0,1,2,3,4,8,9,12,13] (.e 6 [8,9,12,13] (.e 10 [12,13] (.e 14 [] (.r 15 (.e 17 [] .nil .nil)) .nil) .nil) .nil) .nil)) (.e 16 [0,1,2,3,4,8,9,12,13] (.e 5 [0,1,2,8,9,12,13] (.e 6 [8,9,12,13] (.e 10 [12,13] (.e 14 [] (.r 15 (.e 17 [] .nil .nil)) .nil) .nil) .nil) .nil) .nil)) (.e 16 [0,1,2,3,4,8,9,12,13] (.e 5 [0,1,2,8,9,12,13] (.e 6 [8,9,12,13] (.e 10 [12,13] (.e 11 [0,1,2,3,4,8,9,12,13] (.e 14 [] (.r 15 (.e 17 [] .nil .nil)) .nil) .nil) (.e 11 [0,1,2,3,4,8,9,12,13] (.e 10 [12,13] (.e 14 [] (.r 15 (.e 17 [] .nil .nil)) .nil) .nil) .nil)) (.e 11 [0,1,2,3,4,8,9,12,13] (.e 6 [8,9,12,13] (.e 10 [12,13] (.e 14 [] (.r 15 (.e 17 [] .nil .nil)) .nil) .nil) .nil) .nil)) (.e 11 [0,1,2,3,4,8,9,12,13] (.e 5 [0,1,2,8,9,12,13] (.e 6 [8,9,12,13] (.e 10 [12,13] (.e 14 [] (.r 15 (.e 17 [] .nil .nil)) .nil) .nil) .nil) .nil) .nil)) .nil))) (.e 11 [0,1,2,3,4,8,9,12,13] (.e 5 [0,1,2,8,9,12,13] (.e 6 [8,9,12,13] (.e 7 [0,1,2,3,4,8,9,12,13] (.e 10 [12,13] (.e 14 [] (.r 15 (.e 16 [0,1,2,3,4,8,9,12,13,15] (.e 17 [] .nil .nil) .nil)) (.e 16 [0,1,2,3,4,8,9,12,13] (.e 14 [] (.r 15 (.e 17 [] .nil .nil)) .nil) .nil)) (.e 16 [0,1,2,3,4,8,9,12,13] (.e 10 [12,13] (.e 14 [] (.r 15 (.e 17 [] .nil .nil)) .nil) .nil) .nil)) (.e 16 [0,1,2,3,4,8,9,12,13] (.e 7 [0,1,2,3,4,8,9,12,13] (.e 10 [12,13] (.e 14 [] (.r 15 (.e 17 [] .nil .nil)) .nil) .nil) .nil) .nil)) (.e 7 [0,1,2,3,4,8,9,12,13] (.e 6 [8,9,12,13] (.e 10 [12,13] (.e 14 [] (.r 15 (.e 16 [0,1,2,3,4,8,9,12,13,15] (.e 17 [] .nil .nil) .nil)) (.e 16 [0,1,2,3,4,8,9,12,13] (.e 14 [] (.r 15 (.e 17 [] .nil .nil)) .nil) .nil)) (.e 16 [0,1,2,3,4,8,9,12,13] (.e 10 [12,13] (.e 14 [] (.r 15 (.e 17 [] .nil .nil)) .nil) .nil) .nil)) (.e 16 [0,1,2,3,4,8,9,12,13] (.e 6 [8,9,12,13] (.e 10 [12,13] (.e 14 [] (.r 15 (.e 17 [] .nil .nil)) .nil) .nil) .nil) .nil)) (.e 16 [0,1,2,3,4,8,9,12,13] (.e 6 [8,9,12,13] (.e 7 [0,1,2,3,4,8,9,12,13] (.e 10 [12,13] (.e 14 [] (.r 15 (.e 17 [] .nil .nil)) .nil) .nil) .nil) (.e 7 [0,1,2,3,4,8,9,12,13] (.e 6 [8,9,12,13] (.e 10 [12,13] (.e 14 [] (.r 15 (.e 17 [] .nil .nil)) .nil) .nil) .nil) .nil)) .nil))) (.e 7 [0,1,2,3,4,8,9,12,13] (.e 5 [0,1,2,8,9,12,13] (.e 6 [8,9,12,13] (.e 10 [12,13] (.e 14 [] (.r 15 (.e 16 [0,1,2,3,4,8,9,12,13,15] (.e 17 [] .nil .nil) .nil)) (.e 16 [0,1,2,3,4,8,9,12,13] (.e 14 [] (.r 15 (.e 17 [] .nil .nil)) .nil) .nil)) (.e 16 [0,1,2,3,4,8,9,12,13] (.e 10 [12,13] (.e 14 [] (.r 15 (.e 17 [] .nil .nil)) .nil) .nil) .nil)) (.e 16 [0,1,2,3,4,8,9,12,13] (.e 6 [8,9,12,13] (.e 10 [12,13] (.e 14 [] (.r 15 (.e 17 [] .nil .nil)) .nil) .nil) .nil) .nil)) (.e 16 [0,1,2,3,4,8,9,12,13] (.e 5 [0,1,2,8,9,12,13] (.e 6 [8,9,12,13] (.e 10 [12,13] (.e 14 [] (.r 15 (.e 17 [] .nil .nil)) .nil) .nil) .nil) .nil) .nil)) (.e 16 [0,1,2,3,4,8,9,12,13] (.e 5 [0,1,2,8,9,12,13] (.e 6 [8,9,12,13] (.e 7 [0,1,2,3,4,8,9,12,13] (.e 10 [12,13] (.e 14 [] (.r 15 (.e 17 [] .nil .nil)) .nil) .nil) .nil) (.e 7 [0,1,2,3,4,8,9,12,13] (.e 6 [8,9,12,13] (.e 10 [12,13] (.e 14 [] (.r 15 (.e 17 [] .nil .nil)) .nil) .nil) .nil) .nil)) (.e 7 [0,1,2,3,4,8,9,12,13] (.e 5 [0,1,2,8,9,12,13] (.e 6 [8,9,12,13] (.e 10 [12,13] (.e 14 [] (.r 15 (.e 17 [] .nil .nil)) .nil) .nil) .nil) .nil) .nil)) .nil))) (.e 16 [0,1,2,3,4,8,9,12,13] (.e 5 [0,1,2,8,9,12,13] (.e 6 [8,9,12,13] (.e 7 [0,1,2,3,4,8,9,12,13] (.e 10 [12,13] (.e 11 [0,1,2,3,4,8,9,12,13] (.e 14 [] (.r 15 (.e 17 [] .nil .nil)) .nil) .nil) (.e 11 [0,1,2,3,4,8,9,12,13] (.e 10 [12,13] (.e 14 [] (.r 15 (.e 17 [] .nil .nil)) .nil) .nil) .nil)) (.e 11 [0,1,2,3,4,8,9,12,13] (.e 7 [0,1,2,3,4,8,9,12,13] (.e 10 [12,13] (.e 14 [] (.r 15 (.e 17 [] .nil .nil)) .nil) .nil) .nil) .nil)) (.e 7 [0,1,2,3,4,8,9,12,13] (.e 6 [8,9,12,13] (.e 10 [12,13] (.e 11 [0,1,2,3,4,8,9,12,13] (.e 14 [] (.r 15 (.e 17 [] .nil .nil)) .nil) .nil) (.e 11 [0,1,2,3,4,8,9,12,13] (.e 10 [12,13] (.e 14 [] (.r 15 (.e 17 [] .nil .nil)) .nil) .nil) .nil)) (.e 11 [0,1,2,3,4,8,9,12,13] (.e 6 [8,9,12,13] (.e 10 [12,13] (.e 14 [] (.r 15 (.e 17 [] .nil .nil)) .nil) .nil) .nil) .nil)) (.e 11 [0,1,2,3,4,8,9,12,13] (.e 6 [8,9,12,13] (.e 7 [0,1,2,3,4,8,9,12,13] (.e 10 [12,13] (.e 14 [] (.r 15 (.e 17 [] .nil .nil)) .nil) .nil) .nil) (.e 7 [0,1,2,3,4,8,9,12,13] (.e 6 [8,9,12,13] (.e 10 [12,13] (.e 14 [] (.r 15 (.e 17 [] .nil .nil)) .nil) .nil) .nil) .nil)) .nil))) (.e 7 [0,1,2,3,4,8,9,12,13] (.e 5 [0,1,2,8,9,12,13] (.e 6 [8,9,12,13] (.e 10 [12,13] (.e 11 [0,1,2,3,4,8,9,12,13] (.e 14 [] (.r 15 (.e 17 [] .nil .nil)) .nil) .nil) (.e 11 [0,1,2,3,4,8,9,12,13] (.e 10 [12,13] (.e 14 [] (.r 15 (.e 17 [] .nil .nil)) .nil) .nil) .nil)) (.e 11 [0,1,2,3,4,8,9,12,13] (.e 6 [8,9,12,13] (.e 10 [12,13] (.e 14 [] (.r 15 (.e 17 [] .nil .nil)) .nil) .nil) .nil) .nil)) (.e 11 [0,1,2,3,4,8,9,12,13] (.e 5 [0,1,2,8,9,12,13] (.e 6 [8,9,12,13] (.e 10 [12,13] (.e 14 [] (.r 15 (.e 17 [] .nil .nil)) .nil) .nil) .nil) .nil) .nil)) (.e 11 [0,1,2,3,4,8,9,12,13] (.e 5 [0,1,2,8,9,12,13] (.e 6 [8,9,12,13] (.e 7 [0,1,2,3,4,8,9,12,13] (.e 10 [12,13] (.e 14 [] (.r 15 (.e 17 [] .nil .nil)) .nil) .nil) .nil) (.e 7 [0,1,2,3,4,8,9,12,13] (.e 6 [8,9,12,13] (.e 10 [12,13] (.e 14 [] (.r 15 (.e 17 [] .nil .nil)) .nil) .nil) .nil) .nil)) (.e 7 [0,1,2,3,4,8,9,12,13] (.e 5 [0,1,2,8,9,12,13] (.e 6 [8,9,12,13] (.e 10 [12,13] (.e 14 [] (.r 15 (.e 17 [] .nil .nil)) .nil) .nil) .nil) .nil) .nil)) .nil))) .nil)))))))))))))
abbrev C76_2 := Ro [Mv 28 t1,Cv 29 .i64 t28,Bn 30 .sub t29 (kI 2147483648),Bn 31 .quo t30 (kI 64),As 11 t31]
abbrev C76_3 := Ro [Fa 32 1 t10,Ld 33 none t32,Mv 34 t11,Ix 35 1 t33 t34,Ld 36 none t35,Un 37 .not t36]
abbrev C76_4 := Ro [Ld 38 (some 3) t10,Sxn 3 t8 t38,As 9 kF]
abbrev C76_5 := Sq [8,9] C76_4 .ret
abbrev C76_6 := Cd t37 C76_5 .skip
abbrev C76_7 := Sq [8,10,11,37] C76_3 C76_6
abbrev C76_8 := Ro [Fa 39 1 t10,Ld 40 none t39,Mv 41 t11,Ix 42 1 t40 t41,Sxn 1 t42 kF]
abbrev C76_9 := Ro [Fa 43 2 t10,Ld 44 none t43,Mv 45 t11,Ix 46 1 t44 t45,Ld 47 none t46,Bn 48 .add t47 (kL 1),Ix 49 1 t44 t45,Sxn 1 t49 t48]
abbrev C76_10 := Ro [Ld 50 (some 3) t10,Sxn 3 t8 t50,As 9 kT]
abbrev C76_11 := Sq [8,9] C76_10 .ret
abbrev C76_12 := Sq [8,10] C76_9 C76_11
abbrev C76_13 := Sq [8,10,11] C76_8 C76_12
abbrev C76_14 := Sq [8,10,11] C76_7 C76_13
abbrev C76_15 := Sq [8,10,11] C76_2 C76_14
abbrev C76_16 := Sq [1,8,10] C76_1 C76_15
abbrev C76_17 := Sq [1,2,3,4,8] C76_0 C76_16
abbrev C76 := C76_17
abbrev C76r : List RV := [.c 8 (some 3),.t 9]
theorem C76ok : Okf Tryz.prog 76 Tryz.f76 C76 C76r := ⟨Tryz.func76, by kernel_rfl, by kernel_rfl, by kernel_rfl⟩

/-- mimesis/mimesisref07.Taken -/
abbrev C77_0 := Ro [As 6 kF]
abbrev C77_1 := Ro [Mv 9 t1,Ca 10 111 [t9],As 7 t10]
abbrev C77_2 := Ro [Mv 11 t2,Ca 12 111 [t11],As 8 t12]
abbrev C77_3 := Ro [Mv 13 t0]
abbrev C77_4 := Ro [Bn 15 .eql t13 (kI 5),As 14 t15]
abbrev C77_5 := Ro [Mv 16 t7,Mv 17 t8,Bn 18 .eql t16 t17,As 6 t18]
abbrev C77_6 := Sq [6] C77_5 .ret
abbrev C77_7 := Ro [Bn 20 .eql t13 (kI 6),As 19 t20]
abbrev C77_8 := Ro [Mv 21 t7,Mv 22 t8,Bn 23 .neq t21 t22,As 6 t23]
abbrev C77_9 := Sq [6] C77_8 .ret
abbrev C77_10 := Ro [Bn 25 .eql t13 (kI 7),As 24 t25]
abbrev C77_11 := Ro [Mv 26 t7,Mv 27 t8,Bn 28 .lss t26 t27,As 6 t28]
abbrev C77_12 := Sq [6] C77_11 .ret
abbrev C77_13 := Ro [Bn 30 .eql t13 (kI 8),As 29 t30]
abbrev C77_14 := Ro [Mv 31 t7,Mv 32 t8,Bn 33 .geq t31 t32,As 6 t33]
abbrev C77_15 := Sq [6] C77_14 .ret
abbrev C77_16 := Ro [Bn 35 .eql t13 (kI 9),As 34 t35]
abbrev C77_17 := Ro [Mv 36 t1,Cv 37 .i64 t36,Mv 38 t2,Cv 39 .i64 t38,Bn 40 .lss t37 t39,As 6 t40]
abbrev C77_18 := Sq [6] C77_17 .ret
abbrev C77_19 := Cd t34 C77_18 .skip
abbrev C77_20 := Sq [1,2,34] C77_16 C77_19
abbrev C77_21 := Cd t29 C77_15 C77_20
abbrev C77_22 := Sq [1,2,7,8,13,29] C77_13 C77_21
abbrev C77_23 := Cd t24 C77_12 C77_22
abbrev C77_24 := Sq [1,2,7,8,13,24] C77_10 C77_23
abbrev C77_25 := Cd t19 C77_9 C77_24
abbrev C77_26 := Sq [1,2,7,8,13,19] C77_7 C77_25
abbrev C77_27 := Cd t14 C77_6 C77_26
abbrev C77_28 := Sq [1,2,7,8,13,14] C77_4 C77_27
abbrev C77_29 := Bk 0 C77_28
abbrev C77_30 := Sq [1,2,7,8,13] C77_3 C77_29
abbrev C77_31 := Ro [Mv 41 t1,Cv 42 .i64 t41,Mv 43 t2,Cv 44 .i64 t43,Bn 45 .geq t42 t44,As 6 t45]
abbrev C77_32 := Sq [6] C77_31 .ret
abbrev C77_33 := Sq [1,2] C77_30 C77_32
abbrev C77_34 := Sq [0,1,2,7,8] C77_2 C77_33
abbrev C77_35 := Sq [0,1,2,7] C77_1 C77_34
abbrev C77_36 := Sq [0,1,2] C77_0 C77_35
abbrev C77 := C77_36
abbrev C77r : List RV := [.t 6]
theorem C77ok : Okf Tryz.prog 77 Tryz.f77 C77 C77r := ⟨Tryz.func77, by kernel_rfl, by kernel_rfl, by kernel_rfl⟩

/-- mimesis/mimesisref10.Right -/
abbrev C78_0 := Ro [As 2 kF]
abbrev C78_1 := Ro [Mv 3 t0,Bn 4 .geq t3 (kI 64),Mv 5 t4,Mvt 6 5 t0,Bnt 7 5 .leq t6 (kI 65536),Pk 8 t5 t7 kF,Mv 9 t8,Mvt 10 9 t0,Bnt 11 9 .rem t10 (kI 64),Bnt 12 9 .eql t11 (kI 0),Pk 13 t9 t12 kF,As 2 t13]
abbrev C78_2 := Sq [2] C78_1 .ret
abbrev C78_3 := Sq [0] C78_0 C78_2
abbrev C78 := C78_3
abbrev C78r : List RV := [.t 2]
theorem C78ok : Okf Tryz.prog 78 Tryz.f78 C78 C78r := ⟨Tryz.func78, by kernel_rfl, by kernel_rfl, by kernel_rfl⟩

/-- mimesis/mimesisref15.Check -/
abbrev C79_0 := Ro [As 4 (kI 0)]
abbrev C79_1 := Ro [Mv 6 t0,Ca 7 112 [t6]]
abbrev C79_2 := Ro [As 4 (kI 3)]
abbrev C79_3 := Sq [4] C79_2 .ret
abbrev C79_4 := Cd t7 C79_3 .skip
abbrev C79_5 := Sq [0,1,7] C79_1 C79_4
abbrev C79_6 := Ro [As 5 (kI 0)]
abbrev C79_7 := Ro [Mv 8 t5,Mv 9 t0,Ln 10 t9,Bn 11 .lss t8 t10]
abbrev C79_8 := Cd t11 .skip (.exit 0)
abbrev C79_9 := Sq [0,1,5,11] C79_7 C79_8
abbrev C79_10 := Dr [Mv 14 t0,Mv 15 t5,Ix 16 2 t14 t15,Fa 17 1 t16,Ld 18 none t17,Ln 19 t18,Bn 20 .gtr t19 (kI 0),Mv 21 t20,Mvt 22 21 t1,Mvt 23 21 t0,Mvt 24 21 t5,Ixt 25 21 2 t23 t24,Fat 26 21 0 t25,Ldt 27 21 none t26,Mvt 28 21 t0,Mvt 29 21 t5,Ixt 30 21 2 t28 t29,Fat 31 21 1 t30,Ldt 32 21 none t31,Lnt 33 21 t32,Cat 34 21 107 [t22,t27,t33],Unt 35 21 .not t34,Pk 36 t21 t35 kF] [[],[],[0,1],[2],[3],[4],[5],[6],[7],[7],[7],[9,10,7],[11,7],[12,7],[7],[7],[14,15,7],[16,7],[17,7],[18,7],[8,13,19,7,7],[20,7],[7,21]] [(0,[]),(1,[]),(2,[]),(3,[]),(4,[]),(5,[]),(6,[]),(7,[]),(8,[]),(9,[]),(10,[]),(11,[]),(12,[]),(13,[]),(14,[]),(15,[]),(16,[]),(17,[]),(18,[]),(19,[]),(20,[]),(21,[]),(22,[])]
abbrev C79_11 := Ro [As 4 (kI 6)]
abbrev C79_12 := Sq [4] C79_11 .ret
abbrev C79_13 := Cd t36 C79_12 .skip
abbrev C79_14 := Sq [0,1,5,36] C79_10 C79_13
abbrev C79_15 := Bk 1 C79_14
abbrev C79_16 := Ro [Mv 12 t5,Bn 13 .add t12 (kI 1),As 5 t13]
abbrev C79_17 := Sq [0,1,5] C79_15 C79_16
abbrev C79_18 := Sq [0,1,5] C79_9 C79_17
abbrev C79_19 : ACode := .loop C79_18
abbrev C79_20 := Bk 0 C79_19
abbrev C79_21 := Sq [0,1,5] C79_6 C79_20
abbrev C79_22 := Ro [As 4 (kI 0)]
abbrev C79_23 := Sq [4] C79_22 .ret
abbrev C79_24 := Sq [] C79_21 C79_23
abbrev C79_25 := Sq [0,1] C79_5 C79_24
abbrev C79_26 := Sq [0,1] C79_0 C79_25
abbrev C79 := C79_26
abbrev C79r : List RV := [.t 4]
theorem C79ok : Okf Tryz.prog 79 Tryz.f79 C79 C79r := ⟨Tryz.func79, by kernel_rfl, by kernel_rfl, by kernel_rfl⟩

/-- mimesis/mimesisref12.Right -/
abbrev C80_0 := Ro [As 2 (kI 0)]
abbrev C80_1 := Ro [Mv 4 t0,Ln 5 t4,Bn 6 .gtr t5 (kI 256)]
abbrev C80_2 := Ro [As 2 (kI 3)]
abbrev C80_3 := Sq [2] C80_2 .ret
abbrev C80_4 := Cd t6 C80_3 .skip
abbrev C80_5 := Sq [0,6] C80_1 C80_4
abbrev C80_6 := Ro [As 3 (kI 1)]
abbrev C80_7 := Ro [Mv 7 t3,Mv 8 t0,Ln 9 t8,Bn 10 .lss t7 t9]
abbrev C80_8 := Cd t10 .skip (.exit 0)
abbrev C80_9 := Sq [0,3,10] C80_7 C80_8
abbrev C80_10 := Dr [Mv 13 t0,Mv 14 t3,Ix 15 2 t13 t14,Fa 16 0 t15,Ld 17 none t16,Mv 18 t0,Mv 19 t3,Bn 20 .sub t19 (kI 1),Ix 21 2 t18 t20,Fa 22 0 t21,Ld 23 none t22,Bn 24 .lss t17 t23] [[],[],[0,1],[2],[3],[],[],[6],[5,7],[8],[9],[4,10]] [(0,[]),(1,[]),(2,[]),(3,[]),(4,[]),(5,[]),(6,[]),(7,[]),(8,[]),(9,[]),(10,[]),(11,[])]
abbrev C80_11 := Ro [As 2 (kI 1)]
abbrev C80_12 := Sq [2] C80_11 .ret
abbrev C80_13 := Cd t24 C80_12 .skip
abbrev C80_14 := Sq [0,3,24] C80_10 C80_13
abbrev C80_15 := Bk 1 C80_14
abbrev C80_16 := Ro [Mv 11 t3,Bn 12 .add t11 (kI 1),As 3 t12]
abbrev C80_17 := Sq [0,3] C80_15 C80_16
abbrev C80_18 := Sq [0,3] C80_9 C80_17
abbrev C80_19 : ACode := .loop C80_18
abbrev C80_20 := Bk 0 C80_19
abbrev C80_21 := Sq [0,3] C80_6 C80_20
abbrev C80_22 := Ro [As 2 (kI 0)]
abbrev C80_23 := Sq [2] C80_22 .ret
abbrev C80_24 := Sq [] C80_21 C80_23
abbrev C80_25 := Sq [0] C80_5 C80_24
abbrev C80_26 := Sq [0] C80_0 C80_25
abbrev C80 := C80_26
abbrev C80r : List RV := [.t 2]
theorem C80ok : Okf Tryz.prog 80 Tryz.f80 C80 C80r := ⟨Tryz.func80, by kernel_rfl, by kernel_rfl, by kernel_rfl⟩

/-- mimesis/mimesisref09.Legal -/
abbrev C81_0 := Ro [As 4 (kU 0)]
abbrev C81_1 := Ro [Mv 6 t0,Ca 7 113 [t6],As 5 t7]
abbrev C81_2 := Dr [Mv 8 t1,Ca 9 114 [],Mv 10 t5,Ix 11 1 t9 t10,Ld 12 none t11,Bn 13 .and t8 t12,Ca 14 115 [],Mv 15 t5,Ix 16 1 t14 t15,Ld 17 none t16,Bn 18 .or t13 t17,As 4 t18] [[],[],[],[1,2],[3],[0,4],[1],[],[6,7],[8],[5,9],[10,6,0,1,2,3,4,5,6,7,8,9,10]] [(0,[]),(2,[]),(7,[]),(1,[0,2,7]),(3,[]),(4,[]),(5,[]),(6,[0,2,7,3,4,5]),(8,[]),(9,[]),(10,[]),(11,[])]
abbrev C81_3 := Sq [4] C81_2 .ret
abbrev C81_4 := Sq [1,5] C81_1 C81_3
abbrev C81_5 := Sq [0,1] C81_0 C81_4
abbrev C81 := C81_5
abbrev C81r : List RV := [.t 4]
theorem C81ok : Okf Tryz.prog 81 Tryz.f81 C81 C81r := ⟨Tryz.func81, by kernel_rfl, by kernel_rfl, by kernel_rfl⟩

/-- slices.Equal[[]mimesis/api.Event,mimesis/api.Event] -/
abbrev C82_0 := Ro [As 4 kF]
abbrev C82_1 := Ro [Mv 6 t0,Ln 7 t6,Mv 8 t1,Ln 9 t8,Bn 10 .neq t7 t9]
abbrev C82_2 := Ro [As 4 kF]
abbrev C82_3 := Sq [4] C82_2 .ret
abbrev C82_4 := Cd t10 C82_3 .skip
abbrev C82_5 := Sq [0,1,10] C82_1 C82_4
abbrev C82_6 := Ro [Mv 11 t0,Ln 12 t11,Mv 13 (kI 0)]
abbrev C82_7 := Ro [Bn 14 .lss t13 t12]
abbrev C82_8 := Cd t14 .skip (.exit 0)
abbrev C82_9 := Ro [Mv 15 t13,As 5 t15]
abbrev C82_10 := Dr [Mv 16 t0,Mv 17 t5,Ix 18 45 t16 t17,Ld 19 (some 45) t18,Mv 20 t1,Mv 21 t5,Ix 22 45 t20 t21,Ld 23 (some 45) t22,⟨(some 24),none,.r (.eqa true [.i,.i,.i,.i,.i,.i,.i,.i,.i,.i,.i,.i,.i,.i,.i,.i,.i,.i,.i,.i,.i,.i,.i,.i,.i,.i,.i,.i,.i,.i,.i,.i,.i,.i,.i,.i,.i,.i,.i,.i,.i,.i,.i,.i,.i] t19 t23)⟩] [[],[],[0,1],[2],[],[],[4,5],[6],[3,7]] [(0,[]),(1,[]),(2,[]),(3,[]),(4,[]),(5,[]),(6,[]),(7,[]),(8,[])]
abbrev C82_11 := Ro [As 4 kF]
abbrev C82_12 := Sq [4] C82_11 .ret
abbrev C82_13 := Cd t24 C82_12 .skip
abbrev C82_14 := Sq [0,1,12,13,24] C82_10 C82_13
abbrev C82_15 := Sq [0,1,5,12,13] C82_9 C82_14
abbrev C82_16 := Bk 1 C82_15
abbrev C82_17 := Ro [Bn 25 .add t13 (kI 1),Mv 13 t25]
abbrev C82_18 := Sq [0,1,12,13] C82_16 C82_17
abbrev C82_19 := Sq [0,1,12,13] C82_8 C82_18
abbrev C82_20 := Sq [0,1,12,13,14] C82_7 C82_19
abbrev C82_21 : ACode := .loop C82_20
abbrev C82_22 := Bk 0 C82_21
abbrev C82_23 := Sq [0,1,12,13] C82_6 C82_22
abbrev C82_24 := Ro [As 4 kT]
abbrev C82_25 := Sq [4] C82_24 .ret
abbrev C82_26 := Sq [] C82_23 C82_25
abbrev C82_27 := Sq [0,1] C82_5 C82_26
abbrev C82_28 := Sq [0,1] C82_0 C82_27
abbrev C82 := C82_28
abbrev C82r : List RV := [.t 4]
theorem C82ok : Okf Tryz.prog 82 Tryz.f82 C82 C82r := ⟨Tryz.func82, by kernel_rfl, by kernel_rfl, by kernel_rfl⟩

/-- mimesis/image.Check -/
abbrev C83_0 := Ro [As 4 (kI 0)]
abbrev C83_1 := Ro [Mv 7 t0,Ca 8 116 [t7]]
abbrev C83_2 := Ro [As 4 (kI 3)]
abbrev C83_3 := Sq [4] C83_2 .ret
abbrev C83_4 := Cd t8 C83_3 .skip
abbrev C83_5 := Sq [0,1,8] C83_1 C83_4
abbrev C83_6 := Ro [Mv 9 t0,Ln 10 t9,Mv 11 (kI 0)]
abbrev C83_7 := Ro [Bn 12 .lss t11 t10]
abbrev C83_8 := Cd t12 .skip (.exit 0)
abbrev C83_9 := Ro [Ix 13 2 t9 t11,Ld 14 (some 2) t13,Al 6 [.int .u32 0,.nils],Sxn 2 t6 t14]
abbrev C83_10 := Ro [Ld 15 (some 2) t6,Mv 16 t1,Ca 17 117 [t15,t16],Un 18 .not t17]
abbrev C83_11 := Ro [As 4 (kI 6)]
abbrev C83_12 := Sq [4] C83_11 .ret
abbrev C83_13 := Cd t18 C83_12 .skip
abbrev C83_14 := Sq [1,9,10,11,18] C83_10 C83_13
abbrev C83_15 : ACode := .fz 6 C83_14
abbrev C83_16 := Sq [1,6,9,10,11] C83_9 C83_15
abbrev C83_17 := Bk 1 C83_16
abbrev C83_18 := Ro [Bn 19 .add t11 (kI 1),Mv 11 t19]
abbrev C83_19 := Sq [1,9,10,11] C83_17 C83_18
abbrev C83_20 := Sq [1,9,10,11] C83_8 C83_19
abbrev C83_21 := Sq [1,9,10,11,12] C83_7 C83_20
abbrev C83_22 : ACode := .loop C83_21
abbrev C83_23 := Bk 0 C83_22
abbrev C83_24 := Sq [1,9,10,11] C83_6 C83_23
abbrev C83_25 := Ro [As 4 (kI 0)]
abbrev C83_26 := Sq [4] C83_25 .ret
abbrev C83_27 := Sq [] C83_24 C83_26
abbrev C83_28 := Sq [0,1] C83_5 C83_27
abbrev C83_29 := Sq [0,1] C83_0 C83_28
abbrev C83 := C83_29
abbrev C83r : List RV := [.t 4]
theorem C83ok : Okf Tryz.prog 83 Tryz.f83 C83 C83r := ⟨Tryz.func83, by kernel_rfl, by kernel_rfl, by kernel_rfl⟩

/-- (*mimesis/ram.Ram).Size -/
abbrev C84_0 := Ro [As 2 (kI 0)]
abbrev C84_1 := Ro [Mv 3 t0,Ep 4 false t3 kP]
abbrev C84_2 := Ro [As 2 (kI 0)]
abbrev C84_3 := Sq [2] C84_2 .ret
abbrev C84_4 := Cd t4 C84_3 .skip
abbrev C84_5 := Sq [0,4] C84_1 C84_4
abbrev C84_6 := Ro [Mv 5 t0,Nc 6 t5,Fa 7 0 t6,Ld 8 none t7,Ln 9 t8,As 2 t9]
abbrev C84_7 := Sq [2] C84_6 .ret
abbrev C84_8 := Sq [0] C84_5 C84_7
abbrev C84_9 := Sq [0] C84_0 C84_8
abbrev C84 := C84_9
abbrev C84r : List RV := [.t 2]
theorem C84ok : Okf Tryz.prog 84 Tryz.f84 C84 C84r := ⟨Tryz.func84, by kernel_rfl, by kernel_rfl, by kernel_rfl⟩

/-- (*mimesis/ram.Ram).Fill -/
abbrev C85_0 := Ro [As 6 (kI 0)]
abbrev C85_1 := Ro [Mv 8 t0,Ep 9 false t8 kP,As 7 t9]
abbrev C85_2 := Ro [As 6 (kI 2)]
abbrev C85_3 := Sq [6] C85_2 .ret
abbrev C85_4 := Ro [Mv 11 t2,Ln 12 t11,Bn 13 .eql t12 (kI 0),As 10 t13]
abbrev C85_5 := Ro [As 6 (kI 0)]
abbrev C85_6 := Sq [6] C85_5 .ret
abbrev C85_7 := Ro [Mv 15 t0,Mv 16 t1,Mv 17 t2,Ln 18 t17,Ca 19 118 [t15,t16,t18],Un 20 .not t19,As 14 t20]
abbrev C85_8 := Ro [As 6 (kI 6)]
abbrev C85_9 := Sq [6] C85_8 .ret
abbrev C85_10 := Cd t14 C85_9 .skip
abbrev C85_11 := Sq [0,1,2,14] C85_7 C85_10
abbrev C85_12 := Cd t10 C85_6 C85_11
abbrev C85_13 := Sq [0,1,2,10] C85_4 C85_12
abbrev C85_14 := Cd t7 C85_3 C85_13
abbrev C85_15 := Sq [0,1,2,7] C85_1 C85_14
abbrev C85_16 := Bk 0 C85_15
abbrev C85_17 := Ro [Mv 21 t0,Mv 22 t1,Mv 23 t2,Ln 24 t23,Ca 25 119 [t21,t22,t24],Mv 26 t2,⟨(some 27),none,.e (.cpy 1 t25 t26)⟩]
abbrev C85_18 := Ro [As 6 (kI 0)]
abbrev C85_19 := Sq [6] C85_18 .ret
abbrev C85_20 := Sq [] C85_17 C85_19
abbrev C85_21 := Sq [0,1,2] C85_16 C85_20
abbrev C85_22 := Sq [0,1,2] C85_0 C85_21
abbrev C85 := C85_22
abbrev C85r : List RV := [.t 6]
theorem C85ok : Okf Tryz.prog 85 Tryz.f85 C85 C85r := ⟨Tryz.func85, by kernel_rfl, by kernel_rfl, by kernel_rfl⟩

/-- slices.Clone[[]mimesis/api.Arrival,mimesis/api.Arrival] -/
abbrev C86_0 := Ro [As 2 kS]
abbrev C86_1 := Ro [Mv 3 t0,Nq 4 false t3]
abbrev C86_2 := Ro [As 2 kS]
abbrev C86_3 := Sq [2] C86_2 .ret
abbrev C86_4 := Cd t4 C86_3 .skip
abbrev C86_5 := Sq [0,4] C86_1 C86_4
abbrev C86_6 := Ro [⟨(some 5),none,.e (.bsl 0 [] [])⟩,Mv 6 t0,Ap 7 2 16 t5 t6,As 2 t7]
abbrev C86_7 := Sq [2] C86_6 .ret
abbrev C86_8 := Sq [0] C86_5 C86_7
abbrev C86_9 := Sq [0] C86_0 C86_8
abbrev C86 := C86_9
abbrev C86r : List RV := [.t 2]
theorem C86ok : Okf Tryz.prog 86 Tryz.f86 C86 C86r := ⟨Tryz.func86, by kernel_rfl, by kernel_rfl, by kernel_rfl⟩

/-- mimesis/fifo.New -/
abbrev C87_0 := Ro [As 0 kP]
abbrev C87_1 := Ro [⟨(some 1),none,.r (.bld [z1,z1,z1,z1,z1,z1,z1,z1,z1,z1,z1,z1,z1,z1,z1,z1,zi,zi] [])⟩,⟨(some 2),none,.e (.box t1)⟩,As 0 t2]
abbrev C87_2 := Sq [0] C87_1 .ret
abbrev C87_3 := Sq [] C87_0 C87_2
abbrev C87 := C87_3
abbrev C87r : List RV := [.t 0]
theorem C87ok : Okf Tryz.prog 87 Tryz.f87 C87 C87r := ⟨Tryz.func87, by kernel_rfl, by kernel_rfl, by kernel_rfl⟩

/-- mimesis/mimesisref10.Put -/
abbrev C88_0 := Ro [As 6 kS]
abbrev C88_1 := Ro [Mv 8 t1,Cv 9 .i64 t8,Bn 10 .sub t9 (kI 2147483648),As 7 t10]
abbrev C88_2 := Dr [⟨(some 11),none,.e (.bsl 0 [] [])⟩,Mv 12 t0,Mv 13 t7,⟨(some 14),none,.r (.sls 1 t12 none (some t13))⟩,Ap 15 1 1 t11 t14,Mv 16 t2,Ap 17 1 1 t15 t16,Mv 18 t0,Mv 19 t7,Mv 20 t2,Ln 21 t20,Bn 22 .add t19 t21,⟨(some 23),none,.r (.sls 1 t18 (some t22) none)⟩,Ap 24 1 1 t17 t23,As 6 t24] [[],[],[],[1,2],[0,3],[],[4,5,4],[],[],[],[9],[8,10],[7,11],[6,12,6],[13,13,0,1,2,3,4,5,6,7,8,9,10,11,12,13]] [(1,[]),(2,[]),(3,[]),(5,[]),(7,[]),(8,[]),(9,[]),(10,[]),(11,[]),(12,[]),(0,[1,2,3,5,7,8,9,10,11,12]),(4,[5,7,8,9,10,11,12]),(6,[7,8,9,10,11,12]),(13,[]),(14,[])]
abbrev C88_3 := Sq [6] C88_2 .ret
abbrev C88_4 := Sq [0,2,7] C88_1 C88_3
abbrev C88_5 := Sq [0,1,2] C88_0 C88_4
abbrev C88 := C88_5
abbrev C88r : List RV := [.t 6]
theorem C88ok : Okf Tryz.prog 88 Tryz.f88 C88 C88r := ⟨Tryz.func88, by kernel_rfl, by kernel_rfl, by kernel_rfl⟩

/-- (mimesis/ir.judge).right -/
abbrev C89_0 := Ro [Br 1 t0,As 2 kF]
abbrev C89_1 := Ro [Fa 6 0 t1,Ld 7 none t6,Nc 8 t7,Fa 9 1 t8,Ld 10 none t9,Ln 11 t10,Mv 12 (kI 0)]
abbrev C89_2 := Ro [Bn 13 .lss t12 t11]
abbrev C89_3 := Cd t13 .skip (.exit 0)
abbrev C89_4 := Ro [Mv 14 t12,As 3 t14]
abbrev C89_5 := Ro [Ld 15 (some 1) t1,Mv 16 t3,Ca 17 120 [t15,t16],Un 18 .not t17]
abbrev C89_6 := Ro [As 2 kF]
abbrev C89_7 := Sq [2] C89_6 .ret
abbrev C89_8 := Cd t18 C89_7 .skip
abbrev C89_9 := Sq [1,11,12,18] C89_5 C89_8
abbrev C89_10 := Sq [1,3,11,12] C89_4 C89_9
abbrev C89_11 := Bk 1 C89_10
abbrev C89_12 := Ro [Bn 19 .add t12 (kI 1),Mv 12 t19]
abbrev C89_13 := Sq [1,11,12] C89_11 C89_12
abbrev C89_14 := Sq [1,11,12] C89_3 C89_13
abbrev C89_15 := Sq [1,11,12,13] C89_2 C89_14
abbrev C89_16 : ACode := .loop C89_15
abbrev C89_17 := Bk 0 C89_16
abbrev C89_18 := Sq [1,11,12] C89_1 C89_17
abbrev C89_19 := Ro [Fa 20 0 t1,Ld 21 none t20,Nc 22 t21,Fa 23 2 t22,Ld 24 none t23,Ln 25 t24,Mv 26 (kI 0)]
abbrev C89_20 := Ro [Bn 27 .lss t26 t25]
abbrev C89_21 := Cd t27 .skip (.exit 2)
abbrev C89_22 := Ro [Mv 28 t26,As 4 t28]
abbrev C89_23 := Ro [Ld 29 (some 1) t1,Mv 30 t4,Ca 31 121 [t29,t30],Un 32 .not t31]
abbrev C89_24 := Ro [As 2 kF]
abbrev C89_25 := Sq [2] C89_24 .ret
abbrev C89_26 := Cd t32 C89_25 .skip
abbrev C89_27 := Sq [1,25,26,32] C89_23 C89_26
abbrev C89_28 := Sq [1,4,25,26] C89_22 C89_27
abbrev C89_29 := Bk 3 C89_28
abbrev C89_30 := Ro [Bn 33 .add t26 (kI 1),Mv 26 t33]
abbrev C89_31 := Sq [1,25,26] C89_29 C89_30
abbrev C89_32 := Sq [1,25,26] C89_21 C89_31
abbrev C89_33 := Sq [1,25,26,27] C89_20 C89_32
abbrev C89_34 : ACode := .loop C89_33
abbrev C89_35 := Bk 2 C89_34
abbrev C89_36 := Sq [1,25,26] C89_19 C89_35
abbrev C89_37 := Ro [As 5 (.func 122)]
abbrev C89_38 := Dr [Fa 34 0 t1,Ld 35 none t34,Nc 36 t35,Fa 37 0 t36,Ld 38 none t37,Ln 39 t38,Bn 40 .gtr t39 (kI 0),Mv 41 t40,Fat 42 41 0 t1,Ldt 43 41 none t42,Nct 44 41 t43,Fat 45 41 0 t44,Ldt 46 41 none t45,Mvt 47 41 t5,Cat 48 41 123 [t46,t47],Unt 49 41 .not t48,Pk 50 t41 t49 kF,Mv 51 t50,Ldt 52 51 (some 1) t1,Fat 53 51 0 t1,Ldt 54 51 none t53,Nct 55 51 t54,Fat 56 51 3 t55,Ldt 57 51 none t56,Fat 58 51 0 t1,Ldt 59 51 none t58,Nct 60 51 t59,Fat 61 51 1 t60,Ldt 62 51 none t61,Lnt 63 51 t62,Cat 64 51 124 [t52,t57,t63],Pk 65 t51 t64 kF,As 2 t65] [[],[0],[1],[2],[3],[4],[5],[6],[7],[8,7],[9,7],[10,7],[11,7],[7],[12,13,7,7],[14,7],[7,15],[16,14],[17],[17],[19,17],[20,17],[21,17],[22,17],[17],[24,17],[25,17],[26,17],[27,17],[28,17],[18,23,29,17,17],[17,30],[31,30,0,1,2,3,4,5,6,7,8,9,10,11,12,13,14,15,16,17,18,19,20,21,22,23,24,25,26,27,28,29,30,31]] [(0,[]),(1,[]),(2,[]),(3,[]),(4,[]),(5,[]),(6,[]),(7,[]),(8,[]),(9,[]),(10,[]),(11,[]),(12,[]),(13,[]),(14,[]),(15,[]),(16,[]),(17,[]),(18,[]),(19,[]),(20,[]),(21,[]),(22,[]),(23,[]),(24,[]),(25,[]),(26,[]),(27,[]),(28,[]),(29,[]),(30,[]),(31,[]),(32,[])]
abbrev C89_39 := Sq [2] C89_38 .ret
abbrev C89_40 := Sq [1,5] C89_37 C89_39
abbrev C89_41 := Sq [1] C89_36 C89_40
abbrev C89_42 := Sq [1] C89_18 C89_41
abbrev C89_43 := Sq [1] C89_0 C89_42
abbrev C89 := C89_43
abbrev C89r : List RV := [.t 2]
theorem C89ok : Okf Tryz.prog 89 Tryz.f89 C89 C89r := ⟨Tryz.func89, by kernel_rfl, by kernel_rfl, by kernel_rfl⟩

/-- (*mimesis/bus.Bus).Calls -/
abbrev C90_0 := Ro [As 4 (kU 0)]
abbrev C90_1 := Ro [Mv 6 t0,Ep 7 false t6 kP]
abbrev C90_2 := Ro [As 4 (kU 0)]
abbrev C90_3 := Sq [4] C90_2 .ret
abbrev C90_4 := Cd t7 C90_3 .skip
abbrev C90_5 := Sq [0,1,7] C90_1 C90_4
abbrev C90_6 := Ro [As 5 (kU 0)]
abbrev C90_7 := Ro [Mv 8 t0,Nc 9 t8,Fa 10 2 t9,Ld 11 none t10,Nc 12 t11,Fa 13 2 t12,Ld 14 none t13]
abbrev C90_8 := Ro [Mv 15 t5,Bn 16 .or t15 (kU 8),As 5 t16]
abbrev C90_9 := Cd t14 C90_8 .skip
abbrev C90_10 := Sq [0,1,5,14] C90_7 C90_9
abbrev C90_11 := Ro [Mv 17 t0,Nc 18 t17,Fa 19 2 t18,Ld 20 none t19,Mv 21 t1,Ca 22 125 [t20,t21]]
abbrev C90_12 := Ro [Mv 23 t5,Bn 24 .or t23 (kU 128),As 5 t24]
abbrev C90_13 := Cd t22 C90_12 .skip
abbrev C90_14 := Sq [0,5,22] C90_11 C90_13
abbrev C90_15 := Ro [Mv 25 t0,Nc 26 t25,Fa 27 1 t26,Ld 28 none t27,Ca 29 126 [t28]]
abbrev C90_16 := Ro [Mv 30 t5,Bn 31 .or t30 (kU 2048),As 5 t31]
abbrev C90_17 := Cd t29 C90_16 .skip
abbrev C90_18 := Sq [5,29] C90_15 C90_17
abbrev C90_19 := Ro [Mv 32 t5,As 4 t32]
abbrev C90_20 := Sq [4] C90_19 .ret
abbrev C90_21 := Sq [5] C90_18 C90_20
abbrev C90_22 := Sq [0,5] C90_14 C90_21
abbrev C90_23 := Sq [0,1,5] C90_10 C90_22
abbrev C90_24 := Sq [0,1,5] C90_6 C90_23
abbrev C90_25 := Sq [0,1] C90_5 C90_24
abbrev C90_26 := Sq [0,1] C90_0 C90_25
abbrev C90 := C90_26
abbrev C90r : List RV := [.t 4]
theorem C90ok : Okf Tryz.prog 90 Tryz.f90 C90 C90r := ⟨Tryz.func90, by kernel_rfl, by kernel_rfl, by kernel_rfl⟩

/-- (*mimesis/console.Console).Next -/
abbrev C91_0 := Ro [As 2 (kL 0),As 3 kF]
abbrev C91_1 := Dr [Mv 4 t0,Ep 5 false t4 kP,Mv 6 t5,Mvf 7 6 t0,Ncf 8 6 t7,Faf 9 6 1 t8,Ldf 10 6 none t9,Mvf 11 6 t0,Ncf 12 6 t11,Faf 13 6 0 t12,Ldf 14 6 none t13,Lnf 15 6 t14,Bnf 16 6 .eql t10 t15,Pk 17 t6 kT t16] [[],[0],[1],[2],[3,2],[4,2],[5,2],[2],[7,2],[8,2],[9,2],[10,2],[6,11,2],[2,12]] [(0,[]),(1,[]),(2,[]),(3,[]),(4,[]),(5,[]),(6,[]),(7,[]),(8,[]),(9,[]),(10,[]),(11,[]),(12,[]),(13,[])]
abbrev C91_2 := Ro [As 2 (kL 0),As 3 kF]
abbrev C91_3 := Sq [2,3] C91_2 .ret
abbrev C91_4 := Cd t17 C91_3 .skip
abbrev C91_5 := Sq [0,17] C91_1 C91_4
abbrev C91_6 := Dr [Mv 18 t0,Nc 19 t18,Fa 20 0 t19,Ld 21 none t20,Mv 22 t0,Nc 23 t22,Fa 24 1 t23,Ld 25 none t24,Ix 26 2 t21 t25,Fa 27 0 t26,Ld 28 none t27,As 2 t28,As 3 kT] [[],[0],[1],[2],[],[4],[5],[6],[3,7],[8],[9],[10,0,1,2,3,4,5,6,7,8,9,10],[11,0,1,2,3,4,5,6,7,8,9,10,11]] [(0,[]),(1,[]),(2,[]),(3,[]),(4,[]),(5,[]),(6,[]),(7,[]),(8,[]),(9,[]),(10,[]),(11,[]),(12,[])]
abbrev C91_7 := Sq [2,3] C91_6 .ret
abbrev C91_8 := Sq [0] C91_5 C91_7
abbrev C91_9 := Sq [0] C91_0 C91_8
abbrev C91 := C91_9
abbrev C91r : List RV := [.t 2,.t 3]
theorem C91ok : Okf Tryz.prog 91 Tryz.f91 C91 C91r := ⟨Tryz.func91, by kernel_rfl, by kernel_rfl, by kernel_rfl⟩

/-- (*mimesis/timer.Timer).Left -/
abbrev C92_0 := Ro [As 4 (kL 0)]
abbrev C92_1 := Ro [Mv 6 t0,Ep 7 false t6 kP,As 5 t7]
abbrev C92_2 := Ro [As 4 (kL 18446744073709551615)]
abbrev C92_3 := Sq [4] C92_2 .ret
abbrev C92_4 := Ro [Mv 9 t0,Mv 10 t1,Ca 11 125 [t9,t10],As 8 t11]
abbrev C92_5 := Ro [As 4 (kL 0)]
abbrev C92_6 := Sq [4] C92_5 .ret
abbrev C92_7 := Cd t8 C92_6 .skip
abbrev C92_8 := Sq [0,1,8] C92_4 C92_7
abbrev C92_9 := Cd t5 C92_3 C92_8
abbrev C92_10 := Sq [0,1,5] C92_1 C92_9
abbrev C92_11 := Bk 0 C92_10
abbrev C92_12 := Dr [Mv 12 t0,Nc 13 t12,Fa 14 1 t13,Ld 15 none t14,Mv 16 t0,Mv 17 t1,Ca 18 127 [t16,t17],Bn 19 .sub t15 t18,As 4 t19] [[],[0],[1],[2],[],[],[4,5],[3,6],[7,6,0,1,2,3,4,5,6,7]] [(0,[]),(1,[]),(2,[]),(3,[]),(4,[]),(5,[]),(6,[0,1,2,3]),(7,[]),(8,[])]
abbrev C92_13 := Sq [4] C92_12 .ret
abbrev C92_14 := Sq [0,1] C92_11 C92_13
abbrev C92_15 := Sq [0,1] C92_0 C92_14
abbrev C92 := C92_15
abbrev C92r : List RV := [.t 4]
theorem C92ok : Okf Tryz.prog 92 Tryz.f92 C92 C92r := ⟨Tryz.func92, by kernel_rfl, by kernel_rfl, by kernel_rfl⟩

/-- mimesis/trap.Wakes -/
abbrev C93_0 := Ro [Br 2 t0,As 4 kF]
abbrev C93_1 := Ro [Mv 5 t1,Fa 6 1 t2,Ld 7 none t6,Bn 8 .and t5 t7,Bn 9 .and t8 (kU 2184),Bn 10 .neq t9 (kU 0),As 4 t10]
abbrev C93_2 := Sq [4] C93_1 .ret
abbrev C93_3 := Sq [1,2] C93_0 C93_2
abbrev C93 := C93_3
abbrev C93r : List RV := [.t 4]
theorem C93ok : Okf Tryz.prog 93 Tryz.f93 C93 C93r := ⟨Tryz.func93, by kernel_rfl, by kernel_rfl, by kernel_rfl⟩

/-- (*mimesis/eval.frame).op$1 -/
abbrev C94_0 := Ro [As 3 (kU 0)]
abbrev C94_1 := Ro [Ld 4 none t1,Nc 5 t4,Fa 6 34 t5,Ld 7 none t6,Mv 8 t0,Ix 9 1 t7 t8,Ld 10 none t9,As 3 t10]
abbrev C94_2 := Sq [3] C94_1 .ret
abbrev C94_3 := Sq [0,1] C94_0 C94_2
abbrev C94 := C94_3
abbrev C94r : List RV := [.t 3]
theorem C94ok : Okf Tryz.prog 94 Tryz.f94 C94 C94r := ⟨Tryz.func94, by kernel_rfl, by kernel_rfl, by kernel_rfl⟩

/-- (*mimesis/eval.frame).load -/
abbrev C95_0 := Ro [Br 3 t1,As 4 (kU 0),As 5 (kI 0)]
abbrev C95_1 := Dr [Mv 9 t0,Nc 10 t9,Fa 11 33 t10,Ld 12 none t11,Mv 13 t0,Nc 14 t13,Fa 15 34 t14,Ld 16 none t15,Fa 17 1 t3,Ld 18 none t17,Ix 19 1 t16 t18,Ld 20 none t19,Fa 21 3 t3,Ld 22 none t21,Cv 23 .i64 t22,Ca 24 129 [t23],Ca 25 128 [t12,t20,t24],Mv 8 t25,Ex 26 0 t8,Ex 27 1 t8,As 6 t26,As 7 t27] [[],[0],[1],[2],[],[4],[5],[6],[],[8],[7,9],[10],[],[12],[13],[14],[3,11,15,15],[16],[17],[17],[18,16,0,1,2,3,4,5,6,7,8,9,10,11,12,13,14,15,16,17,18],[19,20,0,1,2,3,4,5,6,7,8,9,10,11,12,13,14,15,16,17,18,19,20]] [(0,[]),(1,[]),(2,[]),(3,[]),(4,[]),(5,[]),(6,[]),(7,[]),(8,[]),(9,[]),(10,[]),(11,[]),(12,[]),(13,[]),(14,[]),(15,[0,1,2,3,4,5,6,7,8,9,10,11]),(16,[]),(17,[]),(18,[]),(19,[]),(20,[19]),(21,[])]
abbrev C95_2 := Ro [Mv 28 t7,Bn 29 .neq t28 (kI 0)]
abbrev C95_3 := Dr [Fa 30 4 t3,Ld 31 none t30,As 4 (kU 0),As 5 t31] [[],[0],[],[1,2,0,1,2]] [(0,[]),(1,[]),(2,[0,1]),(3,[])]
abbrev C95_4 := Sq [4,5] C95_3 .ret
abbrev C95_5 := Cd t29 C95_4 .skip
abbrev C95_6 := Sq [3,6,29] C95_2 C95_5
abbrev C95_7 := Ro [Fa 32 3 t3,Ld 33 none t32,Cv 34 .i64 t33]
abbrev C95_8 := Ro [Bn 36 .eql t34 (kI 11),As 35 t36]
abbrev C95_9 := Ro [Mv 38 t6,Ca 39 130 [t38,(kI 8)],Mv 37 t39,Ex 40 0 t37,Ex 41 1 t37,As 6 t40]
abbrev C95_10 := Ro [Bn 43 .eql t34 (kI 12),As 42 t43]
abbrev C95_11 := Ro [Mv 45 t6,Ca 46 130 [t45,(kI 16)],Mv 44 t46,Ex 47 0 t44,Ex 48 1 t44,As 6 t47]
abbrev C95_12 := Cd t42 C95_11 .skip
abbrev C95_13 := Sq [6,42] C95_10 C95_12
abbrev C95_14 := Cd t35 C95_9 C95_13
abbrev C95_15 := Sq [6,34,35] C95_8 C95_14
abbrev C95_16 := Bk 0 C95_15
abbrev C95_17 := Sq [6,34] C95_7 C95_16
abbrev C95_18 := Ro [Mv 49 t6,As 4 t49,As 5 (kI (-1))]
abbrev C95_19 := Sq [4,5] C95_18 .ret
abbrev C95_20 := Sq [6] C95_17 C95_19
abbrev C95_21 := Sq [3,6] C95_6 C95_20
abbrev C95_22 := Sq [3,6,7] C95_1 C95_21
abbrev C95_23 := Sq [0,3] C95_0 C95_22
abbrev C95 := C95_23
abbrev C95r : List RV := [.t 4,.t 5]
theorem C95ok : Okf Tryz.prog 95 Tryz.f95 C95 C95r := ⟨Tryz.func95, by kernel_rfl, by kernel_rfl, by kernel_rfl⟩

/-- (*mimesis/eval.frame).store -/
abbrev C96_0 := Ro [Br 3 t1,As 4 (kI 0)]
abbrev C96_1 := Dr [Mv 8 t0,Nc 9 t8,Fa 10 33 t9,Ld 11 none t10,Mv 12 t0,Nc 13 t12,Fa 14 34 t13,Ld 15 none t14,Fa 16 1 t3,Ld 17 none t16,Ix 18 1 t15 t17,Ld 19 none t18,Fa 20 3 t3,Ld 21 none t20,Cv 22 .i64 t21,Ca 23 132 [t22],Mv 24 t0,Nc 25 t24,Fa 26 34 t25,Ld 27 none t26,Fa 28 2 t3,Ld 29 none t28,Ix 30 1 t27 t29,Ld 31 none t30,Ca 32 131 [t11,t19,t23,t31],Mv 7 t32,Ex 33 0 t7,Ex 34 1 t7,As 5 t33,As 6 t34] [[],[0],[1],[2],[],[4],[5],[6],[],[8],[7,9],[10],[],[12],[13],[14],[],[16],[17],[18],[],[20],[19,21],[22],[3,11,15,23,15],[24],[25],[25],[26,24,0,1,2,3,4,5,6,7,8,9,10,11,12,13,14,15,16,17,18,19,20,21,22,23,24,25,26],[27,28,0,1,2,3,4,5,6,7,8,9,10,11,12,13,14,15,16,17,18,19,20,21,22,23,24,25,26,27,28]] [(0,[]),(1,[]),(2,[]),(3,[]),(4,[]),(5,[]),(6,[]),(7,[]),(8,[]),(9,[]),(10,[]),(11,[]),(12,[]),(13,[]),(14,[]),(16,[]),(17,[]),(18,[]),(19,[]),(20,[]),(21,[]),(22,[]),(23,[]),(15,[0,1,2,3,4,5,6,7,8,9,10,11,16,17,18,19,20,21,22,23]),(24,[]),(25,[]),(26,[]),(27,[]),(28,[27]),(29,[])]
abbrev C96_2 := Ro [Mv 36 t6,Bn 37 .neq t36 (kI 0),As 35 t37]
abbrev C96_3 := Ro [Fa 38 4 t3,Ld 39 none t38,As 4 t39]
abbrev C96_4 := Sq [4] C96_3 .ret
abbrev C96_5 := Ro [Mv 41 t5,As 40 t41]
abbrev C96_6 := Ro [Fa 42 5 t3,Ld 43 none t42,As 4 t43]
abbrev C96_7 := Sq [4] C96_6 .ret
abbrev C96_8 := Cd t40 C96_7 .skip
abbrev C96_9 := Sq [3,40] C96_5 C96_8
abbrev C96_10 := Cd t35 C96_4 C96_9
abbrev C96_11 := Sq [3,5,35] C96_2 C96_10
abbrev C96_12 := Bk 0 C96_11
abbrev C96_13 := Ro [As 4 (kI (-1))]
abbrev C96_14 := Sq [4] C96_13 .ret
abbrev C96_15 := Sq [] C96_12 C96_14
abbrev C96_16 := Sq [3,5,6] C96_1 C96_15
abbrev C96_17 := Sq [0,3] C96_0 C96_16
abbrev C96 := C96_17
abbrev C96r : List RV := [.t 4]
theorem C96ok : Okf Tryz.prog 96 Tryz.f96 C96 C96r := ⟨Tryz.func96, by kernel_rfl, by kernel_rfl, by kernel_rfl⟩

/-- mimesis/alu.Taken -/
abbrev C97_0 := Ro [As 6 kF,As 7 (kI 0)]
abbrev C97_1 := Ro [Mv 8 t0]
abbrev C97_2 := Ro [Bn 10 .eql t8 (kI 5),As 9 t10]
abbrev C97_3 := Ro [Mv 11 t1,Mv 12 t2,Bn 13 .eql t11 t12,As 6 t13,As 7 (kI 0)]
abbrev C97_4 := Sq [6,7] C97_3 .ret
abbrev C97_5 := Ro [Bn 15 .eql t8 (kI 6),As 14 t15]
abbrev C97_6 := Ro [Mv 16 t1,Mv 17 t2,Bn 18 .neq t16 t17,As 6 t18,As 7 (kI 0)]
abbrev C97_7 := Sq [6,7] C97_6 .ret
abbrev C97_8 := Ro [Bn 20 .eql t8 (kI 7),As 19 t20]
abbrev C97_9 := Ro [Mv 21 t1,Cv 22 .i32 t21,Mv 23 t2,Cv 24 .i32 t23,Bn 25 .lss t22 t24,As 6 t25,As 7 (kI 0)]
abbrev C97_10 := Sq [6,7] C97_9 .ret
abbrev C97_11 := Ro [Bn 27 .eql t8 (kI 8),As 26 t27]
abbrev C97_12 := Ro [Mv 28 t1,Cv 29 .i32 t28,Mv 30 t2,Cv 31 .i32 t30,Bn 32 .geq t29 t31,As 6 t32,As 7 (kI 0)]
abbrev C97_13 := Sq [6,7] C97_12 .ret
abbrev C97_14 := Ro [Bn 34 .eql t8 (kI 9),As 33 t34]
abbrev C97_15 := Ro [Mv 35 t1,Mv 36 t2,Bn 37 .lss t35 t36,As 6 t37,As 7 (kI 0)]
abbrev C97_16 := Sq [6,7] C97_15 .ret
abbrev C97_17 := Ro [Bn 39 .eql t8 (kI 10),As 38 t39]
abbrev C97_18 := Ro [Mv 40 t1,Mv 41 t2,Bn 42 .geq t40 t41,As 6 t42,As 7 (kI 0)]
abbrev C97_19 := Sq [6,7] C97_18 .ret
abbrev C97_20 := Cd t38 C97_19 .skip
abbrev C97_21 := Sq [1,2,38] C97_17 C97_20
abbrev C97_22 := Cd t33 C97_16 C97_21
abbrev C97_23 := Sq [1,2,8,33] C97_14 C97_22
abbrev C97_24 := Cd t26 C97_13 C97_23
abbrev C97_25 := Sq [1,2,8,26] C97_11 C97_24
abbrev C97_26 := Cd t19 C97_10 C97_25
abbrev C97_27 := Sq [1,2,8,19] C97_8 C97_26
abbrev C97_28 := Cd t14 C97_7 C97_27
abbrev C97_29 := Sq [1,2,8,14] C97_5 C97_28
abbrev C97_30 := Cd t9 C97_4 C97_29
abbrev C97_31 := Sq [1,2,8,9] C97_2 C97_30
abbrev C97_32 := Bk 0 C97_31
abbrev C97_33 := Sq [1,2,8] C97_1 C97_32
abbrev C97_34 := Ro [As 6 kF,As 7 (kI 9)]
abbrev C97_35 := Sq [6,7] C97_34 .ret
abbrev C97_36 := Sq [] C97_33 C97_35
abbrev C97_37 := Sq [0,1,2] C97_0 C97_36
abbrev C97 := C97_37
abbrev C97r : List RV := [.t 6,.t 7]
theorem C97ok : Okf Tryz.prog 97 Tryz.f97 C97 C97r := ⟨Tryz.func97, by kernel_rfl, by kernel_rfl, by kernel_rfl⟩

/-- mimesis/eval.Pure -/
abbrev C98_0 := Ro [Br 3 t0,As 6 (kU 0),As 7 kF]
abbrev C98_1 := Ro [Fa 11 0 t3,Ld 12 none t11,Bn 13 .eql t12 (kI 2),As 10 t13]
abbrev C98_2 := Ro [Fa 14 3 t3,Ld 15 none t14,As 6 t15,As 7 kT]
abbrev C98_3 := Sq [6,7] C98_2 .ret
abbrev C98_4 := Ro [Fa 17 0 t3,Ld 18 none t17,Bn 19 .neq t18 (kI 3),Mv 20 t19,Faf 21 20 3 t3,Ldf 22 20 none t21,Cvf 23 20 .i64 t22,Caf 24 20 133 [t23],Unf 25 20 .not t24,Pk 26 t20 kT t25,As 16 t26]
abbrev C98_5 := Ro [As 6 (kU 0),As 7 kF]
abbrev C98_6 := Sq [6,7] C98_5 .ret
abbrev C98_7 := Cd t16 C98_6 .skip
abbrev C98_8 := Sq [1,2,3,16] C98_4 C98_7
abbrev C98_9 := Cd t10 C98_3 C98_8
abbrev C98_10 := Sq [1,2,3,10] C98_1 C98_9
abbrev C98_11 := Bk 0 C98_10
abbrev C98_12 := Ro [Fa 28 3 t3,Ld 29 none t28,Cv 30 .i64 t29,Mv 31 t1,Mv 32 t2,Ca 33 134 [t30,t31,t32],Mv 27 t33,Ex 34 0 t27,Ex 35 1 t27,As 8 t34,As 9 t35]
abbrev C98_13 := Ro [Mv 36 t9,Bn 37 .neq t36 (kI 0)]
abbrev C98_14 := Ro [Fa 39 3 t3,Ld 40 none t39,Cv 41 .i64 t40,Mv 42 t1,Mv 43 t2,Ca 44 135 [t41,t42,t43],Mv 38 t44,Ex 45 0 t38,Ex 46 1 t38,As 8 t45,As 9 t46]
abbrev C98_15 := Cd t37 C98_14 .skip
abbrev C98_16 := Sq [1,2,3,8,9,37] C98_13 C98_15
abbrev C98_17 := Ro [Mv 47 t8,Mv 48 t9,Bn 49 .eql t48 (kI 0),As 6 t47,As 7 t49]
abbrev C98_18 := Sq [6,7] C98_17 .ret
abbrev C98_19 := Sq [8,9] C98_16 C98_18
abbrev C98_20 := Sq [1,2,3,8,9] C98_12 C98_19
abbrev C98_21 := Sq [1,2,3] C98_11 C98_20
abbrev C98_22 := Sq [1,2,3] C98_0 C98_21
abbrev C98 := C98_22
abbrev C98r : List RV := [.t 6,.t 7]
theorem C98ok : Okf Tryz.prog 98 Tryz.f98 C98 C98r := ⟨Tryz.func98, by kernel_rfl, by kernel_rfl, by kernel_rfl⟩

/-- (*mimesis/fifo.Fifo).each -/
abbrev C99_0 := Ro [Mv 5 t0,Ca 6 136 [t5],Mv 7 (kI 0)]
abbrev C99_1 := Ro [Bn 8 .lss t7 t6]
abbrev C99_2 := Cd t8 .skip (.exit 0)
abbrev C99_3 := Ro [Mv 9 t7,As 4 t9]
abbrev C99_4 := Dr [Mv 10 t1,Mv 11 t0,Mv 12 t0,Nc 13 t12,Fa 14 16 t13,Ld 15 none t14,Mv 16 t4,Bn 17 .add t15 t16,Bn 18 .rem t17 (kI 16),Nc 19 t11,Fa 20 0 t19,⟨(some 21),none,.r (.ixa 16 1 t20 t18)⟩,Ld 22 none t21,⟨(some 23),none,.e (.callv t10 [t22])⟩,Un 24 .not t23] [[],[],[],[2],[3],[4],[],[5,6],[7],[1],[9],[10,8],[11],[0,12],[13]] [(0,[]),(1,[]),(2,[]),(3,[]),(4,[]),(5,[]),(6,[]),(7,[]),(8,[]),(9,[]),(10,[]),(11,[]),(12,[]),(13,[]),(14,[])]
abbrev C99_5 := Cd t24 .ret .skip
abbrev C99_6 := Sq [0,1,6,7,24] C99_4 C99_5
abbrev C99_7 := Sq [0,1,4,6,7] C99_3 C99_6
abbrev C99_8 := Bk 1 C99_7
abbrev C99_9 := Ro [Bn 25 .add t7 (kI 1),Mv 7 t25]
abbrev C99_10 := Sq [0,1,6,7] C99_8 C99_9
abbrev C99_11 := Sq [0,1,6,7] C99_2 C99_10
abbrev C99_12 := Sq [0,1,6,7,8] C99_1 C99_11
abbrev C99_13 : ACode := .loop C99_12
abbrev C99_14 := Bk 0 C99_13
abbrev C99_15 := Sq [0,1,6,7] C99_0 C99_14
abbrev C99 := C99_15
abbrev C99r : List RV := []
theorem C99ok : Okf Tryz.prog 99 Tryz.f99 C99 C99r := ⟨Tryz.func99, by kernel_rfl, by kernel_rfl, by kernel_rfl⟩

/-- mimesis/mimesisref07.Has -/
abbrev C100_0 := Ro [As 2 kF]
abbrev C100_1 := Ro [Mv 3 t0,Bn 4 .geq t3 (kI 19),Mv 5 t4,Mvt 6 5 t0,Bnt 7 5 .leq t6 (kI 37),Pk 8 t5 t7 kF,As 2 t8]
abbrev C100_2 := Sq [2] C100_1 .ret
abbrev C100_3 := Sq [0] C100_0 C100_2
abbrev C100 := C100_3
abbrev C100r : List RV := [.t 2]
theorem C100ok : Okf Tryz.prog 100 Tryz.f100 C100 C100r := ⟨Tryz.func100, by kernel_rfl, by kernel_rfl, by kernel_rfl⟩

/-- mimesis/mimesisref08.Has -/
abbrev C101_0 := Ro [As 2 kF]
abbrev C101_1 := Ro [Mv 3 t0,Bn 4 .geq t3 (kI 50),Mv 5 t4,Mvt 6 5 t0,Bnt 7 5 .leq t6 (kI 57),Pk 8 t5 t7 kF,As 2 t8]
abbrev C101_2 := Sq [2] C101_1 .ret
abbrev C101_3 := Sq [0] C101_0 C101_2
abbrev C101 := C101_3
abbrev C101r : List RV := [.t 2]
theorem C101ok : Okf Tryz.prog 101 Tryz.f101 C101 C101r := ⟨Tryz.func101, by kernel_rfl, by kernel_rfl, by kernel_rfl⟩

/-- mimesis/mimesisref17.bit -/
abbrev C102_0 := Ro [As 4 (kU 0)]
abbrev C102_1 := Ro [Mv 5 t0,Mv 6 t1,Ca 7 137 [t5,t6,(kI 1)],As 4 t7]
abbrev C102_2 := Sq [4] C102_1 .ret
abbrev C102_3 := Sq [0,1] C102_0 C102_2
abbrev C102 := C102_3
abbrev C102r : List RV := [.t 4]
theorem C102ok : Okf Tryz.prog 102 Tryz.f102 C102 C102r := ⟨Tryz.func102, by kernel_rfl, by kernel_rfl, by kernel_rfl⟩

/-- mimesis/mimesisref14.Calls -/
abbrev C103_0 := Ro [Br 2 t0,As 4 (kU 0)]
abbrev C103_1 := Ro [As 5 (kU 0)]
abbrev C103_2 := Ro [Fa 6 6 t2,Fa 7 2 t6,Ld 8 none t7]
abbrev C103_3 := Ro [Mv 9 t5,Bn 10 .add t9 (kU 8),As 5 t10]
abbrev C103_4 := Cd t8 C103_3 .skip
abbrev C103_5 := Sq [1,2,5,8] C103_2 C103_4
abbrev C103_6 := Ro [Fa 11 6 t2,Ld 12 (some 3) t11,Mv 13 t1,Ca 14 138 [t12,t13]]
abbrev C103_7 := Ro [Mv 15 t5,Bn 16 .add t15 (kU 128),As 5 t16]
abbrev C103_8 := Cd t14 C103_7 .skip
abbrev C103_9 := Sq [2,5,14] C103_6 C103_8
abbrev C103_10 := Ro [Fa 17 1 t2,Fa 18 2 t17,Ld 19 none t18,Ln 20 t19,Bn 21 .gtr t20 (kI 0)]
abbrev C103_11 := Ro [Mv 22 t5,Bn 23 .add t22 (kU 2048),As 5 t23]
abbrev C103_12 := Cd t21 C103_11 .skip
abbrev C103_13 := Sq [5,21] C103_10 C103_12
abbrev C103_14 := Ro [Mv 24 t5,As 4 t24]
abbrev C103_15 := Sq [4] C103_14 .ret
abbrev C103_16 := Sq [5] C103_13 C103_15
abbrev C103_17 := Sq [2,5] C103_9 C103_16
abbrev C103_18 := Sq [1,2,5] C103_5 C103_17
abbrev C103_19 := Sq [1,2,5] C103_1 C103_18
abbrev C103_20 := Sq [1,2] C103_0 C103_19
abbrev C103 := C103_20
abbrev C103r : List RV := [.t 4]
theorem C103ok : Okf Tryz.prog 103 Tryz.f103 C103 C103r := ⟨Tryz.func103, by kernel_rfl, by kernel_rfl, by kernel_rfl⟩

/-- mimesis/mimesisref08.Do -/
abbrev C104_0 := Ro [As 6 (kU 0)]
abbrev C104_1 := Ro [Mv 9 t1,Ca 10 111 [t9],As 7 t10]
abbrev C104_2 := Ro [Mv 11 t2,Ca 12 111 [t11],As 8 t12]
abbrev C104_3 := Ro [Mv 13 t0]
abbrev C104_4 := Ro [Bn 15 .eql t13 (kI 50),As 14 t15]
abbrev C104_5 := Ro [Mv 16 t1,Cv 17 .u64 t16,Mv 18 t2,Cv 19 .u64 t18,Bn 20 .mul t17 t19,Bn 21 .rem t20 (kL 4294967296),Cv 22 .u32 t21,As 6 t22]
abbrev C104_6 := Sq [6] C104_5 .ret
abbrev C104_7 := Ro [Bn 24 .eql t13 (kI 51),As 23 t24]
abbrev C104_8 := Ro [Mv 25 t7,Mv 26 t8,Bn 27 .mul t25 t26,Ca 28 139 [t27],As 6 t28]
abbrev C104_9 := Sq [6] C104_8 .ret
abbrev C104_10 := Ro [Bn 30 .eql t13 (kI 52),As 29 t30]
abbrev C104_11 := Ro [Mv 31 t7,Mv 32 t2,Cv 33 .i64 t32,Bn 34 .mul t31 t33,Ca 35 139 [t34],As 6 t35]
abbrev C104_12 := Sq [6] C104_11 .ret
abbrev C104_13 := Ro [Bn 37 .eql t13 (kI 53),As 36 t37]
abbrev C104_14 := Ro [Mv 38 t1,Cv 39 .u64 t38,Mv 40 t2,Cv 41 .u64 t40,Bn 42 .mul t39 t41,Bn 43 .quo t42 (kL 4294967296),Cv 44 .u32 t43,As 6 t44]
abbrev C104_15 := Sq [6] C104_14 .ret
abbrev C104_16 := Cd t36 C104_15 .skip
abbrev C104_17 := Sq [0,1,2,7,8,36] C104_13 C104_16
abbrev C104_18 := Cd t29 C104_12 C104_17
abbrev C104_19 := Sq [0,1,2,7,8,13,29] C104_10 C104_18
abbrev C104_20 := Cd t23 C104_9 C104_19
abbrev C104_21 := Sq [0,1,2,7,8,13,23] C104_7 C104_20
abbrev C104_22 := Cd t14 C104_6 C104_21
abbrev C104_23 := Sq [0,1,2,7,8,13,14] C104_4 C104_22
abbrev C104_24 := Bk 0 C104_23
abbrev C104_25 := Sq [0,1,2,7,8,13] C104_3 C104_24
abbrev C104_26 := Ro [Mv 45 t2,Bn 46 .eql t45 (kU 0)]
abbrev C104_27 := Ro [Mv 47 t0,Bn 48 .eql t47 (kI 54),Mv 49 t48,Mvf 50 49 t0,Bnf 51 49 .eql t50 (kI 55),Pk 52 t49 kT t51]
abbrev C104_28 := Ro [As 6 (kU 4294967295)]
abbrev C104_29 := Sq [6] C104_28 .ret
abbrev C104_30 := Cd t52 C104_29 .skip
abbrev C104_31 := Sq [1,52] C104_27 C104_30
abbrev C104_32 := Ro [Mv 53 t1,As 6 t53]
abbrev C104_33 := Sq [6] C104_32 .ret
abbrev C104_34 := Sq [1] C104_31 C104_33
abbrev C104_35 := Cd t46 C104_34 .skip
abbrev C104_36 := Sq [0,1,2,7,8,46] C104_26 C104_35
abbrev C104_37 := Ro [Mv 54 t0]
abbrev C104_38 := Ro [Bn 56 .eql t54 (kI 54),As 55 t56]
abbrev C104_39 := Ro [Mv 57 t7,Mv 58 t8,Bn 59 .quo t57 t58,Ca 60 140 [t59],As 6 t60]
abbrev C104_40 := Sq [6] C104_39 .ret
abbrev C104_41 := Ro [Bn 62 .eql t54 (kI 56),As 61 t62]
abbrev C104_42 := Ro [Mv 63 t7,Mv 64 t8,Bn 65 .rem t63 t64,Ca 66 140 [t65],As 6 t66]
abbrev C104_43 := Sq [6] C104_42 .ret
abbrev C104_44 := Ro [Bn 68 .eql t54 (kI 55),As 67 t68]
abbrev C104_45 := Ro [Mv 69 t1,Mv 70 t2,Bn 71 .quo t69 t70,As 6 t71]
abbrev C104_46 := Sq [6] C104_45 .ret
abbrev C104_47 := Cd t67 C104_46 .skip
abbrev C104_48 := Sq [1,2,67] C104_44 C104_47
abbrev C104_49 := Cd t61 C104_43 C104_48
abbrev C104_50 := Sq [1,2,7,8,54,61] C104_41 C104_49
abbrev C104_51 := Cd t55 C104_40 C104_50
abbrev C104_52 := Sq [1,2,7,8,54,55] C104_38 C104_51
abbrev C104_53 := Bk 1 C104_52
abbrev C104_54 := Sq [1,2,7,8,54] C104_37 C104_53
abbrev C104_55 := Ro [Mv 72 t1,Mv 73 t2,Bn 74 .rem t72 t73,As 6 t74]
abbrev C104_56 := Sq [6] C104_55 .ret
abbrev C104_57 := Sq [1,2] C104_54 C104_56
abbrev C104_58 := Sq [0,1,2,7,8] C104_36 C104_57
abbrev C104_59 := Sq [0,1,2,7,8] C104_25 C104_58
abbrev C104_60 := Sq [0,1,2,7,8] C104_2 C104_59
abbrev C104_61 := Sq [0,1,2,7] C104_1 C104_60
abbrev C104_62 := Sq [0,1,2] C104_0 C104_61
abbrev C104 := C104_62
abbrev C104r : List RV := [.t 6]
theorem C104ok : Okf Tryz.prog 104 Tryz.f104 C104 C104r := ⟨Tryz.func104, by kernel_rfl, by kernel_rfl, by kernel_rfl⟩

/-- mimesis/mimesisref07.Do -/
abbrev C105_0 := Ro [As 6 (kU 0)]
abbrev C105_1 := Ro [Mv 10 t2,Bn 11 .rem t10 (kU 32),Cv 12 .i64 t11,As 7 t12]
abbrev C105_2 := Ro [Mv 13 t1,Ca 14 111 [t13],As 8 t14]
abbrev C105_3 := Ro [Mv 15 t2,Ca 16 111 [t15],As 9 t16]
abbrev C105_4 := Ro [Mv 17 t0,Ca 18 141 [t17]]
abbrev C105_5 := Ro [Bn 20 .eql t18 (kI 28),As 19 t20]
abbrev C105_6 := Ro [Mv 21 t8,Mv 22 t9,Bn 23 .add t21 t22,Ca 24 140 [t23],As 6 t24]
abbrev C105_7 := Sq [6] C105_6 .ret
abbrev C105_8 := Ro [Bn 26 .eql t18 (kI 29),As 25 t26]
abbrev C105_9 := Ro [Mv 27 t8,Mv 28 t9,Bn 29 .sub t27 t28,Ca 30 140 [t29],As 6 t30]
abbrev C105_10 := Sq [6] C105_9 .ret
abbrev C105_11 := Ro [Bn 32 .eql t18 (kI 31),As 31 t32]
abbrev C105_12 := Ro [Mv 33 t8,Mv 34 t9,Bn 35 .lss t33 t34,Ca 36 142 [t35],As 6 t36]
abbrev C105_13 := Sq [6] C105_12 .ret
abbrev C105_14 := Ro [Bn 38 .eql t18 (kI 32),As 37 t38]
abbrev C105_15 := Ro [Mv 39 t1,Mv 40 t2,Bn 41 .lss t39 t40,Ca 42 142 [t41],As 6 t42]
abbrev C105_16 := Sq [6] C105_15 .ret
abbrev C105_17 := Ro [Bn 44 .eql t18 (kI 33),As 43 t44]
abbrev C105_18 := Ro [Mv 45 t1,Mv 46 t2,⟨(some 47),none,.e (.bsr 3 [.int .u64 0,.int .u64 0,.int .u64 0] [(0,1,(kL 0)),(1,1,(kL 1)),(2,1,(kL 0))])⟩,Ca 48 143 [t45,t46,t47],As 6 t48]
abbrev C105_19 := Sq [6] C105_18 .ret
abbrev C105_20 := Ro [Bn 50 .eql t18 (kI 36),As 49 t50]
abbrev C105_21 := Ro [Mv 51 t1,Mv 52 t2,⟨(some 53),none,.e (.bsr 3 [.int .u64 0,.int .u64 0,.int .u64 0] [(0,1,(kL 0)),(1,1,(kL 1)),(2,1,(kL 1))])⟩,Ca 54 143 [t51,t52,t53],As 6 t54]
abbrev C105_22 := Sq [6] C105_21 .ret
abbrev C105_23 := Ro [Bn 56 .eql t18 (kI 37),As 55 t56]
abbrev C105_24 := Ro [Mv 57 t1,Mv 58 t2,⟨(some 59),none,.e (.bsr 3 [.int .u64 0,.int .u64 0,.int .u64 0] [(0,1,(kL 0)),(1,1,(kL 0)),(2,1,(kL 1))])⟩,Ca 60 143 [t57,t58,t59],As 6 t60]
abbrev C105_25 := Sq [6] C105_24 .ret
abbrev C105_26 := Ro [Bn 62 .eql t18 (kI 30),As 61 t62]
abbrev C105_27 := Ro [Mv 63 t1,Cv 64 .u64 t63,Mv 65 t7,Ca 66 109 [t65],Bn 67 .mul t64 t66,Bn 68 .rem t67 (kL 4294967296),Cv 69 .u32 t68,As 6 t69]
abbrev C105_28 := Sq [6] C105_27 .ret
abbrev C105_29 := Ro [Bn 71 .eql t18 (kI 34),As 70 t71]
abbrev C105_30 := Ro [Mv 72 t1,Cv 73 .u64 t72,Mv 74 t7,Ca 75 109 [t74],Bn 76 .quo t73 t75,Cv 77 .u32 t76,As 6 t77]
abbrev C105_31 := Sq [6] C105_30 .ret
abbrev C105_32 := Cd t70 C105_31 .skip
abbrev C105_33 := Sq [1,7,8,70] C105_29 C105_32
abbrev C105_34 := Cd t61 C105_28 C105_33
abbrev C105_35 := Sq [1,7,8,18,61] C105_26 C105_34
abbrev C105_36 := Cd t55 C105_25 C105_35
abbrev C105_37 := Sq [1,2,7,8,18,55] C105_23 C105_36
abbrev C105_38 := Cd t49 C105_22 C105_37
abbrev C105_39 := Sq [1,2,7,8,18,49] C105_20 C105_38
abbrev C105_40 := Cd t43 C105_19 C105_39
abbrev C105_41 := Sq [1,2,7,8,18,43] C105_17 C105_40
abbrev C105_42 := Cd t37 C105_16 C105_41
abbrev C105_43 := Sq [1,2,7,8,18,37] C105_14 C105_42
abbrev C105_44 := Cd t31 C105_13 C105_43
abbrev C105_45 := Sq [1,2,7,8,9,18,31] C105_11 C105_44
abbrev C105_46 := Cd t25 C105_10 C105_45
abbrev C105_47 := Sq [1,2,7,8,9,18,25] C105_8 C105_46
abbrev C105_48 := Cd t19 C105_7 C105_47
abbrev C105_49 := Sq [1,2,7,8,9,18,19] C105_5 C105_48
abbrev C105_50 := Bk 0 C105_49
abbrev C105_51 := Sq [1,2,7,8,9,18] C105_4 C105_50
abbrev C105_52 := Ro [Mv 78 t8,Mv 79 t7,Ca 80 144 [t78,t79],Ca 81 140 [t80],As 6 t81]
abbrev C105_53 := Sq [6] C105_52 .ret
abbrev C105_54 := Sq [7,8] C105_51 C105_53
abbrev C105_55 := Sq [0,1,2,7,8,9] C105_3 C105_54
abbrev C105_56 := Sq [0,1,2,7,8] C105_2 C105_55
abbrev C105_57 := Sq [0,1,2,7] C105_1 C105_56
abbrev C105_58 := Sq [0,1,2] C105_0 C105_57
abbrev C105 := C105_58
abbrev C105r : List RV := [.t 6]
theorem C105ok : Okf Tryz.prog 105 Tryz.f105 C105 C105r := ⟨Tryz.func105, by kernel_rfl, by kernel_rfl, by kernel_rfl⟩

/-- mimesis/mimesisref01.Width -/
abbrev C106_0 := Ro [As 2 kF]
abbrev C106_1 := Ro [Mv 3 t0,Bn 4 .eql t3 (kI 1),Mv 5 t4,Mvf 6 5 t0,Bnf 7 5 .eql t6 (kI 2),Pk 8 t5 kT t7,Mv 9 t8,Mvf 10 9 t0,Bnf 11 9 .eql t10 (kI 4),Pk 12 t9 kT t11,As 2 t12]
abbrev C106_2 := Sq [2] C106_1 .ret
abbrev C106_3 := Sq [0] C106_0 C106_2
abbrev C106 := C106_3
abbrev C106r : List RV := [.t 2]
theorem C106ok : Okf Tryz.prog 106 Tryz.f106 C106 C106r := ⟨Tryz.func106, by kernel_rfl, by kernel_rfl, by kernel_rfl⟩

/-- mimesis/mimesisref10.Has -/
abbrev C107_0 := Ro [As 6 kF]
abbrev C107_1 := Ro [Mv 8 t1,Cv 9 .i64 t8,Bn 10 .sub t9 (kI 2147483648),As 7 t10]
abbrev C107_2 := Ro [Mv 11 t2,Bn 12 .geq t11 (kI 1),Mv 13 t12,Mvt 14 13 t7,Bnt 15 13 .geq t14 (kI 0),Pk 16 t13 t15 kF,Mv 17 t16,Mvt 18 17 t2,Mvt 19 17 t0,Lnt 20 17 t19,Bnt 21 17 .leq t18 t20,Pk 22 t17 t21 kF,Mv 23 t22,Mvt 24 23 t7,Mvt 25 23 t0,Lnt 26 23 t25,Mvt 27 23 t2,Bnt 28 23 .sub t26 t27,Bnt 29 23 .leq t24 t28,Pk 30 t23 t29 kF,As 6 t30]
abbrev C107_3 := Sq [6] C107_2 .ret
abbrev C107_4 := Sq [0,2,7] C107_1 C107_3
abbrev C107_5 := Sq [0,1,2] C107_0 C107_4
abbrev C107 := C107_5
abbrev C107r : List RV := [.t 6]
theorem C107ok : Okf Tryz.prog 107 Tryz.f107 C107 C107r := ⟨Tryz.func107, by kernel_rfl, by kernel_rfl, by kernel_rfl⟩

/-- mimesis/mimesisref01.Number -/
abbrev C108_0 := Ro [As 2 (kU 0)]
abbrev C108_1 := Ro [As 3 (kL 0)]
abbrev C108_2 := Ro [As 4 (kI 0)]
abbrev C108_3 := Ro [Mv 5 t4,Mv 6 t0,Ln 7 t6,Bn 8 .lss t5 t7]
abbrev C108_4 := Cd t8 .skip (.exit 0)
abbrev C108_5 := Sq [0,3,4,8] C108_3 C108_4
abbrev C108_6 := Dr [Mv 11 t3,Mv 12 t0,Mv 13 t4,Ix 14 1 t12 t13,Ld 15 none t14,Cv 16 .u64 t15,Mv 17 t4,Bn 18 .mul (kI 8) t17,Ca 19 109 [t18],Bn 20 .mul t16 t19,Bn 21 .add t11 t20,As 3 t21] [[],[],[],[1,2],[3],[4],[],[6],[7],[5,8],[0,9],[10,8,0,1,2,3,4,5,6,7,8,9,10]] [(0,[]),(1,[]),(2,[]),(3,[]),(4,[]),(5,[]),(6,[]),(7,[]),(8,[0,1,2,3,4,5]),(9,[]),(10,[]),(11,[])]
abbrev C108_7 := Bk 1 C108_6
abbrev C108_8 := Ro [Mv 9 t4,Bn 10 .add t9 (kI 1),As 4 t10]
abbrev C108_9 := Sq [0,3,4] C108_7 C108_8
abbrev C108_10 := Sq [0,3,4] C108_5 C108_9
abbrev C108_11 : ACode := .loop C108_10
abbrev C108_12 := Bk 0 C108_11
abbrev C108_13 := Sq [0,3,4] C108_2 C108_12
abbrev C108_14 := Ro [Mv 22 t3,Cv 23 .u32 t22,As 2 t23]
abbrev C108_15 := Sq [2] C108_14 .ret
abbrev C108_16 := Sq [3] C108_13 C108_15
abbrev C108_17 := Sq [0,3] C108_1 C108_16
abbrev C108_18 := Sq [0] C108_0 C108_17
abbrev C108 := C108_18
abbrev C108r : List RV := [.t 2]
theorem C108ok : Okf Tryz.prog 108 Tryz.f108 C108 C108r := ⟨Tryz.func108, by kernel_rfl, by kernel_rfl, by kernel_rfl⟩

/-- mimesis/mimesisref01.Power -/
abbrev C109_0 := Ro [As 2 (kL 0)]
abbrev C109_1 := Ro [As 3 (kL 1)]
abbrev C109_2 := Ro [As 4 (kI 0)]
abbrev C109_3 := Ro [Mv 5 t4,Mv 6 t0,Bn 7 .lss t5 t6]
abbrev C109_4 := Cd t7 .skip (.exit 0)
abbrev C109_5 := Sq [0,3,4,7] C109_3 C109_4
abbrev C109_6 := Ro [Mv 10 t3,Bn 11 .mul t10 (kL 2),As 3 t11]
abbrev C109_7 := Bk 1 C109_6
abbrev C109_8 := Ro [Mv 8 t4,Bn 9 .add t8 (kI 1),As 4 t9]
abbrev C109_9 := Sq [0,3,4] C109_7 C109_8
abbrev C109_10 := Sq [0,3,4] C109_5 C109_9
abbrev C109_11 : ACode := .loop C109_10
abbrev C109_12 := Bk 0 C109_11
abbrev C109_13 := Sq [0,3,4] C109_2 C109_12
abbrev C109_14 := Ro [Mv 12 t3,As 2 t12]
abbrev C109_15 := Sq [2] C109_14 .ret
abbrev C109_16 := Sq [3] C109_13 C109_15
abbrev C109_17 := Sq [0,3] C109_1 C109_16
abbrev C109_18 := Sq [0] C109_0 C109_17
abbrev C109 := C109_18
abbrev C109r : List RV := [.t 2]
theorem C109ok : Okf Tryz.prog 109 Tryz.f109 C109 C109r := ⟨Tryz.func109, by kernel_rfl, by kernel_rfl, by kernel_rfl⟩

/-- mimesis/mimesisref01.Bytes -/
abbrev C110_0 := Ro [As 4 kS]
abbrev C110_1 := Ro [⟨(some 7),none,.e (.bsl 0 [] [])⟩,As 5 t7]
abbrev C110_2 := Ro [As 6 (kI 0)]
abbrev C110_3 := Ro [Mv 8 t6,Mv 9 t1,Bn 10 .lss t8 t9]
abbrev C110_4 := Cd t10 .skip (.exit 0)
abbrev C110_5 := Sq [0,1,5,6,10] C110_3 C110_4
abbrev C110_6 := Ro [Mv 13 t5,Mv 14 t0,Cv 15 .u64 t14,Mv 16 t6,Bn 17 .mul (kI 8) t16,Ca 18 109 [t17],Bn 19 .quo t15 t18,Bn 20 .rem t19 (kL 256),Cv 21 .u8 t20,⟨(some 22),none,.e (.bsr 1 [.int .u8 0] [(0,1,t21)])⟩,Ap 23 1 1 t13 t22,As 5 t23]
abbrev C110_7 := Bk 1 C110_6
abbrev C110_8 := Ro [Mv 11 t6,Bn 12 .add t11 (kI 1),As 6 t12]
abbrev C110_9 := Sq [0,1,5,6] C110_7 C110_8
abbrev C110_10 := Sq [0,1,5,6] C110_5 C110_9
abbrev C110_11 : ACode := .loop C110_10
abbrev C110_12 := Bk 0 C110_11
abbrev C110_13 := Sq [0,1,5,6] C110_2 C110_12
abbrev C110_14 := Ro [Mv 24 t5,As 4 t24]
abbrev C110_15 := Sq [4] C110_14 .ret
abbrev C110_16 := Sq [5] C110_13 C110_15
abbrev C110_17 := Sq [0,1,5] C110_1 C110_16
abbrev C110_18 := Sq [0,1] C110_0 C110_17
abbrev C110 := C110_18
abbrev C110r : List RV := [.t 4]
theorem C110ok : Okf Tryz.prog 110 Tryz.f110 C110 C110r := ⟨Tryz.func110, by kernel_rfl, by kernel_rfl, by kernel_rfl⟩

/-- mimesis/mimesisref01.Signed -/
abbrev C111_0 := Ro [As 2 (kI 0)]
abbrev C111_1 := Ro [Mv 3 t0,Bn 4 .geq t3 (kU 2147483648)]
abbrev C111_2 := Ro [Mv 5 t0,Cv 6 .i64 t5,Bn 7 .sub t6 (kI 4294967296),As 2 t7]
abbrev C111_3 := Sq [2] C111_2 .ret
abbrev C111_4 := Cd t4 C111_3 .skip
abbrev C111_5 := Sq [0,4] C111_1 C111_4
abbrev C111_6 := Ro [Mv 8 t0,Cv 9 .i64 t8,As 2 t9]
abbrev C111_7 := Sq [2] C111_6 .ret
abbrev C111_8 := Sq [0] C111_5 C111_7
abbrev C111_9 := Sq [0] C111_0 C111_8
abbrev C111 := C111_9
abbrev C111r : List RV := [.t 2]
theorem C111ok : Okf Tryz.prog 111 Tryz.f111 C111 C111r := ⟨Tryz.func111, by kernel_rfl, by kernel_rfl, by kernel_rfl⟩

/-- mimesis/mimesisref15.long -/
abbrev C112_0 := Ro [As 2 kF]
abbrev C112_1 := Ro [As 3 (kI 0)]
abbrev C112_2 := Ro [As 4 (kI 0)]
abbrev C112_3 := Ro [Mv 5 t4,Mv 6 t0,Ln 7 t6,Bn 8 .lss t5 t7]
abbrev C112_4 := Cd t8 .skip (.exit 0)
abbrev C112_5 := Sq [0,3,4,8] C112_3 C112_4
abbrev C112_6 := Ro [Mv 11 t3,Mv 12 t0,Mv 13 t4,Ix 14 2 t12 t13,Fa 15 1 t14,Ld 16 none t15,Ln 17 t16,⟨(some 18),none,.r (.mm false t17 (kI 100000))⟩,Bn 19 .add t11 t18,As 3 t19]
abbrev C112_7 := Ro [Mv 20 t4,Bn 21 .geq t20 (kI 1024),Mv 22 t21,Mvf 23 22 t3,Bnf 24 22 .gtr t23 (kI 65536),Pk 25 t22 kT t24]
abbrev C112_8 := Ro [As 2 kT]
abbrev C112_9 := Sq [2] C112_8 .ret
abbrev C112_10 := Cd t25 C112_9 .skip
abbrev C112_11 := Sq [0,3,4,25] C112_7 C112_10
abbrev C112_12 := Sq [0,3,4] C112_6 C112_11
abbrev C112_13 := Bk 1 C112_12
abbrev C112_14 := Ro [Mv 9 t4,Bn 10 .add t9 (kI 1),As 4 t10]
abbrev C112_15 := Sq [0,3,4] C112_13 C112_14
abbrev C112_16 := Sq [0,3,4] C112_5 C112_15
abbrev C112_17 : ACode := .loop C112_16
abbrev C112_18 := Bk 0 C112_17
abbrev C112_19 := Sq [0,3,4] C112_2 C112_18
abbrev C112_20 := Ro [As 2 kF]
abbrev C112_21 := Sq [2] C112_20 .ret
abbrev C112_22 := Sq [] C112_19 C112_21
abbrev C112_23 := Sq [0,3] C112_1 C112_22
abbrev C112_24 := Sq [0] C112_0 C112_23
abbrev C112 := C112_24
abbrev C112r : List RV := [.t 2]
theorem C112ok : Okf Tryz.prog 112 Tryz.f112 C112 C112r := ⟨Tryz.func112, by kernel_rfl, by kernel_rfl, by kernel_rfl⟩

/-- mimesis/mimesisref09.Place -/
abbrev C113_0 := Ro [As 2 (kI 0)]
abbrev C113_1 := Ro [Ca 5 145 [],As 3 t5]
abbrev C113_2 := Ro [As 4 (kI 0)]
abbrev C113_3 := Ro [Mv 6 t4,Mv 7 t3,Ln 8 t7,Bn 9 .lss t6 t8]
abbrev C113_4 := Cd t9 .skip (.exit 0)
abbrev C113_5 := Sq [0,3,4,9] C113_3 C113_4
abbrev C113_6 := Ro [Mv 12 t3,Mv 13 t4,Ix 14 1 t12 t13,Ld 15 none t14,Mv 16 t0,Bn 17 .eql t15 t16]
abbrev C113_7 := Ro [Mv 18 t4,As 2 t18]
abbrev C113_8 := Sq [2] C113_7 .ret
abbrev C113_9 := Cd t17 C113_8 .skip
abbrev C113_10 := Sq [0,3,4,17] C113_6 C113_9
abbrev C113_11 := Bk 1 C113_10
abbrev C113_12 := Ro [Mv 10 t4,Bn 11 .add t10 (kI 1),As 4 t11]
abbrev C113_13 := Sq [0,3,4] C113_11 C113_12
abbrev C113_14 := Sq [0,3,4] C113_5 C113_13
abbrev C113_15 : ACode := .loop C113_14
abbrev C113_16 := Bk 0 C113_15
abbrev C113_17 := Sq [0,3,4] C113_2 C113_16
abbrev C113_18 := Ro [As 2 (kI (-1))]
abbrev C113_19 := Sq [2] C113_18 .ret
abbrev C113_20 := Sq [] C113_17 C113_19
abbrev C113_21 := Sq [0,3] C113_1 C113_20
abbrev C113_22 := Sq [0] C113_0 C113_21
abbrev C113 := C113_22
abbrev C113r : List RV := [.t 2]
theorem C113ok : Okf Tryz.prog 113 Tryz.f113 C113 C113r := ⟨Tryz.func113, by kernel_rfl, by kernel_rfl, by kernel_rfl⟩

/-- mimesis/mimesisref09.Kept -/
abbrev C114_0 := Ro [As 0 kS]
abbrev C114_1 := Ro [⟨(some 1),none,.e (.bsr 23 [z4,z4,z4,z4,z4,z4,z4,z4,z4,z4,z4,z4,z4,z4,z4,z4,z4,z4,z4,z4,z4,z4,z4] [(0,1,(kU 136)),(1,1,(kU 0)),(2,1,(kU 2184)),(3,1,(kU 4294967293)),(4,1,(kU 4294967295)),(5,1,(kU 4294967292)),(6,1,(kU 4294967295)),(7,1,(kU 4294967295)),(8,1,(kU 0)),(9,1,(kU 4294967295)),(10,1,(kU 4294967295)),(11,1,(kU 4294967295)),(12,1,(kU 4294967295)),(13,1,(kU 0)),(14,1,(kU 0)),(15,1,(kU 0)),(16,1,(kU 0)),(17,1,(kU 0)),(18,1,(kU 0)),(19,1,(kU 0)),(20,1,(kU 0)),(21,1,(kU 0)),(22,1,(kU 0))])⟩,As 0 t1]
abbrev C114_2 := Sq [0] C114_1 .ret
abbrev C114_3 := Sq [] C114_0 C114_2
abbrev C114 := C114_3
abbrev C114r : List RV := [.t 0]
theorem C114ok : Okf Tryz.prog 114 Tryz.f114 C114 C114r := ⟨Tryz.func114, by kernel_rfl, by kernel_rfl, by kernel_rfl⟩

/-- mimesis/mimesisref09.Fixed -/
abbrev C115_0 := Ro [As 0 kS]
abbrev C115_1 := Ro [⟨(some 1),none,.e (.bsr 23 [z4,z4,z4,z4,z4,z4,z4,z4,z4,z4,z4,z4,z4,z4,z4,z4,z4,z4,z4,z4,z4,z4,z4] [(0,1,(kU 6144)),(1,1,(kU 1073746176)),(2,1,(kU 0)),(3,1,(kU 0)),(4,1,(kU 0)),(5,1,(kU 0)),(6,1,(kU 0)),(7,1,(kU 0)),(8,1,(kU 0)),(9,1,(kU 0)),(10,1,(kU 0)),(11,1,(kU 0)),(12,1,(kU 0)),(13,1,(kU 0)),(14,1,(kU 0)),(15,1,(kU 0)),(16,1,(kU 0)),(17,1,(kU 0)),(18,1,(kU 0)),(19,1,(kU 0)),(20,1,(kU 0)),(21,1,(kU 0)),(22,1,(kU 0))])⟩,As 0 t1]
abbrev C115_2 := Sq [0] C115_1 .ret
abbrev C115_3 := Sq [] C115_0 C115_2
abbrev C115 := C115_3
abbrev C115r : List RV := [.t 0]
theorem C115ok : Okf Tryz.prog 115 Tryz.f115 C115 C115r := ⟨Tryz.func115, by kernel_rfl, by kernel_rfl, by kernel_rfl⟩

/-- mimesis/image.long -/
abbrev C116_0 := Ro [As 2 kF]
abbrev C116_1 := Ro [Mv 6 t0,Ln 7 t6,Bn 8 .gtr t7 (kI 1024)]
abbrev C116_2 := Ro [As 2 kT]
abbrev C116_3 := Sq [2] C116_2 .ret
abbrev C116_4 := Cd t8 C116_3 .skip
abbrev C116_5 := Sq [0,8] C116_1 C116_4
abbrev C116_6 := Ro [As 3 (kI 0)]
abbrev C116_7 := Ro [Mv 9 t0,Ln 10 t9,Mv 11 (kI 0)]
abbrev C116_8 := Ro [Bn 12 .lss t11 t10]
abbrev C116_9 := Cd t12 .skip (.exit 0)
abbrev C116_10 := Ro [Ix 13 2 t9 t11,Ld 14 (some 2) t13,Al 5 [.int .u32 0,.nils],Sxn 2 t5 t14]
abbrev C116_11 := Ro [Fa 15 1 t5,Ld 16 none t15,Ln 17 t16,Mv 18 t3,Bn 19 .sub (kI 65536) t18,Bn 20 .gtr t17 t19]
abbrev C116_12 := Ro [As 2 kT]
abbrev C116_13 := Sq [2] C116_12 .ret
abbrev C116_14 := Cd t20 C116_13 .skip
abbrev C116_15 := Sq [3,5,9,10,11,20] C116_11 C116_14
abbrev C116_16 := Ro [Mv 21 t3,Fa 22 1 t5,Ld 23 none t22,Ln 24 t23,Bn 25 .add t21 t24,As 3 t25]
abbrev C116_17 := Sq [3,5,9,10,11] C116_15 C116_16
abbrev C116_18 : ACode := .fz 5 C116_17
abbrev C116_19 := Sq [3,5,9,10,11] C116_10 C116_18
abbrev C116_20 := Bk 1 C116_19
abbrev C116_21 := Ro [Bn 26 .add t11 (kI 1),Mv 11 t26]
abbrev C116_22 := Sq [3,9,10,11] C116_20 C116_21
abbrev C116_23 := Sq [3,9,10,11] C116_9 C116_22
abbrev C116_24 := Sq [3,9,10,11,12] C116_8 C116_23
abbrev C116_25 : ACode := .loop C116_24
abbrev C116_26 := Bk 0 C116_25
abbrev C116_27 := Sq [3,9,10,11] C116_7 C116_26
abbrev C116_28 := Ro [As 2 kF]
abbrev C116_29 := Sq [2] C116_28 .ret
abbrev C116_30 := Sq [] C116_27 C116_29
abbrev C116_31 := Sq [0,3] C116_6 C116_30
abbrev C116_32 := Sq [0] C116_5 C116_31
abbrev C116_33 := Sq [0] C116_0 C116_32
abbrev C116 := C116_33
abbrev C116r : List RV := [.t 2]
theorem C116ok : Okf Tryz.prog 116 Tryz.f116 C116 C116r := ⟨Tryz.func116, by kernel_rfl, by kernel_rfl, by kernel_rfl⟩

/-- mimesis/image.inside -/
abbrev C117_0 := Ro [Br 2 t0,As 4 kF]
abbrev C117_1 := Ro [Fa 5 1 t2,Ld 6 none t5,Ln 7 t6,Bn 8 .eql t7 (kI 0)]
abbrev C117_2 := Ro [As 4 kT]
abbrev C117_3 := Sq [4] C117_2 .ret
abbrev C117_4 := Cd t8 C117_3 .skip
abbrev C117_5 := Sq [1,2,8] C117_1 C117_4
abbrev C117_6 := Ro [Fa 9 0 t2,Ld 10 none t9,Bn 11 .geq t10 (kU 2147483648),Mv 12 t11,Fat 13 12 1 t2,Ldt 14 12 none t13,Lnt 15 12 t14,Mvt 16 12 t1,Bnt 17 12 .leq t15 t16,Pk 18 t12 t17 kF,Mv 19 t18,Fat 20 19 0 t2,Ldt 21 19 none t20,Bnt 22 19 .sub t21 (kU 2147483648),Cvt 23 19 .i64 t22,Mvt 24 19 t1,Fat 25 19 1 t2,Ldt 26 19 none t25,Lnt 27 19 t26,Bnt 28 19 .sub t24 t27,Bnt 29 19 .leq t23 t28,Pk 30 t19 t29 kF,As 4 t30]
abbrev C117_7 := Sq [4] C117_6 .ret
abbrev C117_8 := Sq [1,2] C117_5 C117_7
abbrev C117_9 := Sq [1,2] C117_0 C117_8
abbrev C117 := C117_9
abbrev C117r : List RV := [.t 4]
theorem C117ok : Okf Tryz.prog 117 Tryz.f117 C117 C117r := ⟨Tryz.func117, by kernel_rfl, by kernel_rfl, by kernel_rfl⟩

/-- (*mimesis/ram.Ram).Has -/
abbrev C118_0 := Ro [As 6 kF]
abbrev C118_1 := Ro [Mv 7 t0,Ep 8 false t7 kP,Mv 9 t8,Mvf 10 9 t2,Bnf 11 9 .lss t10 (kI 1),Pk 12 t9 kT t11,Mv 13 t12,Mvf 14 13 t2,Mvf 15 13 t0,Ncf 16 13 t15,Faf 17 13 0 t16,Ldf 18 13 none t17,Lnf 19 13 t18,Bnf 20 13 .gtr t14 t19,Pk 21 t13 kT t20,Mv 22 t21,Mvf 23 22 t1,Bnf 24 22 .lss t23 (kU 2147483648),Pk 25 t22 kT t24]
abbrev C118_2 := Ro [As 6 kF]
abbrev C118_3 := Sq [6] C118_2 .ret
abbrev C118_4 := Cd t25 C118_3 .skip
abbrev C118_5 := Sq [0,1,2,25] C118_1 C118_4
abbrev C118_6 := Ro [Mv 26 t1,Bn 27 .sub t26 (kU 2147483648),Cv 28 .i64 t27,Mv 29 t0,Nc 30 t29,Fa 31 0 t30,Ld 32 none t31,Ln 33 t32,Mv 34 t2,Bn 35 .sub t33 t34,Bn 36 .leq t28 t35,As 6 t36]
abbrev C118_7 := Sq [6] C118_6 .ret
abbrev C118_8 := Sq [0,1,2] C118_5 C118_7
abbrev C118_9 := Sq [0,1,2] C118_0 C118_8
abbrev C118 := C118_9
abbrev C118r : List RV := [.t 6]
theorem C118ok : Okf Tryz.prog 118 Tryz.f118 C118 C118r := ⟨Tryz.func118, by kernel_rfl, by kernel_rfl, by kernel_rfl⟩

/-- (*mimesis/ram.Ram).at -/
abbrev C119_0 := Ro [As 6 kS]
abbrev C119_1 := Ro [Mv 8 t1,Bn 9 .sub t8 (kU 2147483648),Cv 10 .i64 t9,As 7 t10]
abbrev C119_2 := Ro [Mv 11 t0,Nc 12 t11,Fa 13 0 t12,Ld 14 none t13,Mv 15 t7,Mv 16 t7,Mv 17 t2,Bn 18 .add t16 t17,Mv 19 t7,Mv 20 t2,Bn 21 .add t19 t20,⟨(some 22),none,.r (.sls3 1 t14 (some t15) t18 t21)⟩,As 6 t22]
abbrev C119_3 := Sq [6] C119_2 .ret
abbrev C119_4 := Sq [0,2,7] C119_1 C119_3
abbrev C119_5 := Sq [0,1,2] C119_0 C119_4
abbrev C119 := C119_5
abbrev C119r : List RV := [.t 6]
theorem C119ok : Okf Tryz.prog 119 Tryz.f119 C119 C119r := ⟨Tryz.func119, by kernel_rfl, by kernel_rfl, by kernel_rfl⟩

/-- (mimesis/ir.judge).op -/
abbrev C120_0 := Ro [Br 2 t0,As 4 kF]
abbrev C120_1 := Ro [Fa 8 0 t2,Ld 9 none t8,Nc 10 t9,Fa 11 1 t10,Ld 12 none t11,Mv 13 t1,Ix 14 6 t12 t13,Ld 15 (some 6) t14,Al 5 [zi,zi,zi,z4,zi,zi],Sxn 6 t5 t15]
abbrev C120_2 := Ro [Ld 16 (some 6) t5,Ca 17 146 [t16],Un 18 .not t17,Mv 19 t18,Ldf 20 19 (some 6) t5,Caf 21 19 147 [t20],Unf 22 19 .not t21,Pk 23 t19 kT t22]
abbrev C120_3 := Ro [As 4 kF]
abbrev C120_4 := Sq [4] C120_3 .ret
abbrev C120_5 := Cd t23 C120_4 .skip
abbrev C120_6 := Sq [1,2,5,23] C120_2 C120_5
abbrev C120_7 := Ro [Ld 24 (some 6) t5,Ca 25 148 [t24],Ln 26 t25,Mv 27 (kI 0)]
abbrev C120_8 := Ro [Bn 28 .lss t27 t26]
abbrev C120_9 := Cd t28 .skip (.exit 0)
abbrev C120_10 := Ro [Ix 29 1 t25 t27,Ld 30 none t29,As 7 t30]
abbrev C120_11 := Ro [Ld 31 (some 1) t2,Mv 32 t7,Mv 33 t1,Ca 34 149 [t31,t32,t33],Un 35 .not t34]
abbrev C120_12 := Ro [As 4 kF]
abbrev C120_13 := Sq [4] C120_12 .ret
abbrev C120_14 := Cd t35 C120_13 .skip
abbrev C120_15 := Sq [1,2,5,25,26,27,35] C120_11 C120_14
abbrev C120_16 := Sq [1,2,5,7,25,26,27] C120_10 C120_15
abbrev C120_17 := Bk 1 C120_16
abbrev C120_18 := Ro [Bn 36 .add t27 (kI 1),Mv 27 t36]
abbrev C120_19 := Sq [1,2,5,25,26,27] C120_17 C120_18
abbrev C120_20 := Sq [1,2,5,25,26,27] C120_9 C120_19
abbrev C120_21 := Sq [1,2,5,25,26,27,28] C120_8 C120_20
abbrev C120_22 : ACode := .loop C120_21
abbrev C120_23 := Bk 0 C120_22
abbrev C120_24 := Sq [1,2,5,25,26,27] C120_7 C120_23
abbrev C120_25 := Ro [Fa 37 0 t5,Ld 38 none t37]
abbrev C120_26 := Ro [Bn 40 .eql t38 (kI 5),As 39 t40]
abbrev C120_27 := Ro [Ld 41 (some 1) t2,Fa 42 4 t5,Ld 43 none t42,Mv 44 t1,Ca 45 124 [t41,t43,t44],Mv 46 t45,Ldt 47 46 (some 1) t2,Fat 48 46 5 t5,Ldt 49 46 none t48,Mvt 50 46 t1,Cat 51 46 124 [t47,t49,t50],Pk 52 t46 t51 kF,As 4 t52]
abbrev C120_28 := Sq [4] C120_27 .ret
abbrev C120_29 := Ro [Bn 54 .eql t38 (kI 4),As 53 t54]
abbrev C120_30 := Ro [Bn 55 .eql t38 (kI 6),As 53 t55]
abbrev C120_31 := Cd t53 .skip C120_30
abbrev C120_32 := Sq [1,2,5,38,53] C120_29 C120_31
abbrev C120_33 := Ro [Ld 56 (some 1) t2,Fa 57 4 t5,Ld 58 none t57,Mv 59 t1,Ca 60 124 [t56,t58,t59],As 4 t60]
abbrev C120_34 := Sq [4] C120_33 .ret
abbrev C120_35 := Cd t53 C120_34 .skip
abbrev C120_36 := Sq [1,2,5,53] C120_32 C120_35
abbrev C120_37 := Cd t39 C120_28 C120_36
abbrev C120_38 := Sq [1,2,5,38,39] C120_26 C120_37
abbrev C120_39 := Bk 2 C120_38
abbrev C120_40 := Sq [1,2,5,38] C120_25 C120_39
abbrev C120_41 := Ro [As 4 kT]
abbrev C120_42 := Sq [4] C120_41 .ret
abbrev C120_43 := Sq [] C120_40 C120_42
abbrev C120_44 := Sq [1,2,5] C120_24 C120_43
abbrev C120_45 := Sq [1,2,5] C120_6 C120_44
abbrev C120_46 : ACode := .fz 5 C120_45
abbrev C120_47 := Sq [1,2,5] C120_1 C120_46
abbrev C120_48 := Sq [1,2] C120_0 C120_47
abbrev C120 := C120_48
abbrev C120r : List RV := [.t 4]
theorem C120ok : Okf Tryz.prog 120 Tryz.f120 C120 C120r := ⟨Tryz.func120, by kernel_rfl, by kernel_rfl, by kernel_rfl⟩

/-- (mimesis/ir.judge).leaves -/
abbrev C121_0 := Ro [Br 2 t0,As 4 kF]
abbrev C121_1 := Ro [Fa 9 0 t2,Ld 10 none t9,Nc 11 t10,Fa 12 2 t11,Ld 13 none t12,Mv 14 t1,Ix 15 5 t13 t14,Ld 16 (some 5) t15,Al 5 [zi,z4,zi,zi,.nils],Sxn 5 t5 t16]
abbrev C121_2 := Dr [Ld 17 (some 1) t2,Mv 18 t1,Fa 19 0 t2,Ld 20 none t19,Nc 21 t20,Fa 22 1 t21,Ld 23 none t22,Ln 24 t23,Ca 25 124 [t17,t18,t24],Un 26 .not t25,Mv 27 t26,Faf 28 27 0 t5,Ldf 29 27 none t28,Bnf 30 27 .lss t29 (kI 0),Pk 31 t27 kT t30,Mv 32 t31,Faf 33 32 0 t5,Ldf 34 32 none t33,Faf 35 32 0 t2,Ldf 36 32 none t35,Ncf 37 32 t36,Faf 38 32 0 t37,Ldf 39 32 none t38,Lnf 40 32 t39,Bnf 41 32 .gtr t34 t40,Pk 42 t32 kT t41,Mv 43 t42,Faf 44 43 1 t5,Ldf 45 43 none t44,Bnf 46 43 .rem t45 (kU 4),Bnf 47 43 .neq t46 (kU 0),Pk 48 t43 kT t47,Mv 49 t48,Faf 50 49 3 t5,Ldf 51 49 none t50,Bnf 52 49 .lss t51 (kI 1),Pk 53 t49 kT t52,Mv 54 t53,Faf 55 54 3 t5,Ldf 56 54 none t55,Bnf 57 54 .gtr t56 (kI 4),Pk 58 t54 kT t57] [[],[],[],[2],[3],[4],[5],[6],[0,1,7],[8],[9,8],[10],[11,10],[12,10],[10,13],[14,10],[15],[16,15],[15],[18,15],[19,15],[20,15],[21,15],[22,15],[17,23,15],[15,24],[25,15],[26],[27,26],[28,26],[29,26],[26,30],[31,26],[32],[33,32],[34,32],[32,35],[36,32],[37],[38,37],[39,37],[37,40]] [(0,[]),(1,[]),(2,[]),(3,[]),(4,[]),(5,[]),(6,[]),(7,[]),(8,[]),(9,[]),(10,[]),(11,[]),(12,[]),(13,[]),(14,[]),(15,[]),(16,[]),(17,[]),(18,[]),(19,[]),(20,[]),(21,[]),(22,[]),(23,[]),(24,[]),(25,[]),(26,[]),(27,[]),(28,[]),(29,[]),(30,[]),(31,[]),(32,[]),(33,[]),(34,[]),(35,[]),(36,[]),(37,[]),(38,[]),(39,[]),(40,[]),(41,[])]
abbrev C121_3 := Ro [As 4 kF]
abbrev C121_4 := Sq [4] C121_3 .ret
abbrev C121_5 := Cd t58 C121_4 .skip
abbrev C121_6 := Sq [5,58] C121_2 C121_5
abbrev C121_7 := Ro [As 6 (kI 0)]
abbrev C121_8 := Ro [Fa 59 4 t5,Ld 60 none t59,Ln 61 t60,Mv 62 (kI 0)]
abbrev C121_9 := Ro [Bn 63 .lss t62 t61]
abbrev C121_10 := Cd t63 .skip (.exit 0)
abbrev C121_11 := Ro [Ix 64 2 t60 t62,Ld 65 (some 2) t64,Al 8 [.int .i64 0,.int .i64 0],Sxn 2 t8 t65]
abbrev C121_12 := Ro [Fa 66 0 t8,Ld 67 none t66,Mv 68 t6,Bn 69 .leq t67 t68,Mv 70 t69,Faf 71 70 0 t8,Ldf 72 70 none t71,Bnf 73 70 .gtr t72 (kI 31),Pk 74 t70 kT t73]
abbrev C121_13 := Ro [As 4 kF]
abbrev C121_14 := Sq [4] C121_13 .ret
abbrev C121_15 := Cd t74 C121_14 .skip
abbrev C121_16 := Sq [8,60,61,62,74] C121_12 C121_15
abbrev C121_17 := Ro [Fa 75 0 t8,Ld 76 none t75,As 6 t76]
abbrev C121_18 := Sq [8,60,61,62] C121_16 C121_17
abbrev C121_19 : ACode := .fz 8 C121_18
abbrev C121_20 := Sq [6,8,60,61,62] C121_11 C121_19
abbrev C121_21 := Bk 1 C121_20
abbrev C121_22 := Ro [Bn 77 .add t62 (kI 1),Mv 62 t77]
abbrev C121_23 := Sq [6,60,61,62] C121_21 C121_22
abbrev C121_24 := Sq [6,60,61,62] C121_10 C121_23
abbrev C121_25 := Sq [6,60,61,62,63] C121_9 C121_24
abbrev C121_26 : ACode := .loop C121_25
abbrev C121_27 := Bk 0 C121_26
abbrev C121_28 := Sq [6,60,61,62] C121_8 C121_27
abbrev C121_29 := Ro [As 4 kT]
abbrev C121_30 := Sq [4] C121_29 .ret
abbrev C121_31 := Sq [] C121_28 C121_30
abbrev C121_32 := Sq [5,6] C121_7 C121_31
abbrev C121_33 := Sq [5] C121_6 C121_32
abbrev C121_34 : ACode := .fz 5 C121_33
abbrev C121_35 := Sq [1,2,5] C121_1 C121_34
abbrev C121_36 := Sq [1,2] C121_0 C121_35
abbrev C121 := C121_36
abbrev C121r : List RV := [.t 4]
theorem C121ok : Okf Tryz.prog 121 Tryz.f121 C121 C121r := ⟨Tryz.func121, by kernel_rfl, by kernel_rfl, by kernel_rfl⟩

/-- (mimesis/ir.judge).right$1 -/
abbrev C122_0 := Ro [As 2 kF]
abbrev C122_1 := Ro [Mv 3 t0,Bn 4 .rem t3 (kU 4),Bn 5 .neq t4 (kU 0),As 2 t5]
abbrev C122_2 := Sq [2] C122_1 .ret
abbrev C122_3 := Sq [0] C122_0 C122_2
abbrev C122 := C122_3
abbrev C122r : List RV := [.t 2]
theorem C122ok : Okf Tryz.prog 122 Tryz.f122 C122 C122r := ⟨Tryz.func122, by kernel_rfl, by kernel_rfl, by kernel_rfl⟩

/-- slices.ContainsFunc[[]uint32,uint32] -/
abbrev C123_0 := Ro [As 4 kF]
abbrev C123_1 := Ro [Mv 5 t0,Mv 6 t1,Ca 7 150 [t5,t6],Bn 8 .geq t7 (kI 0),As 4 t8]
abbrev C123_2 := Sq [4] C123_1 .ret
abbrev C123_3 := Sq [0,1] C123_0 C123_2
abbrev C123 := C123_3
abbrev C123r : List RV := [.t 4]
theorem C123ok : Okf Tryz.prog 123 Tryz.f123 C123 C123r := ⟨Tryz.func123, by kernel_rfl, by kernel_rfl, by kernel_rfl⟩
end Go.Ab
end
