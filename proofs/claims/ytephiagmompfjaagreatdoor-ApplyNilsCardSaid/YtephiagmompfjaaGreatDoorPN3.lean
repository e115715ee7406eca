/- Bytes that wait. -/
import Derived.Test.YtephiagmompfjaaGreatDoorPN2
import Derived.Test.YtephiagmompfjaaGreatDoorProg
section
/- Words as instructions: what fields are, over numbers alone. -/
set_option linter.unusedSimpArgs false
set_option linter.unusedVariables false
namespace Go.Ab
/-- Bits of a word, from lo on, k of them. -/
def fld (w : BitVec 32) (lo k : Nat) : Nat := w.toNat / 2 ^ lo % 2 ^ k
theorem fld_lt (w : BitVec 32) (lo k : Nat) : fld w lo k < 2 ^ k := Nat.mod_lt _ (Nat.two_pow_pos k)
theorem shl_shr_fld (w : BitVec 32) (hi lo : Nat) (h1 : lo ≤ hi) (h2 : hi ≤ 31) : ((w <<< (31 - hi)) >>> (31 - hi + lo)).toNat = fld w lo (hi - lo + 1) := by
  rw [BitVec.toNat_ushiftRight, BitVec.toNat_shiftLeft, Nat.shiftRight_eq_div_pow, Nat.shiftLeft_eq]
  unfold fld
  have e1 : 2 ^ 32 = 2 ^ (hi + 1) * 2 ^ (31 - hi) := by rw [← Nat.pow_add]; congr 1; omega
  rw [e1, Nat.mul_mod_mul_right, Nat.pow_add 2 (31 - hi) lo, ← Nat.div_div_eq_div_mul, Nat.mul_div_cancel _ (Nat.two_pow_pos _)]
  have e2 : 2 ^ (hi + 1) = 2 ^ lo * 2 ^ (hi - lo + 1) := by rw [← Nat.pow_add]; congr 1; omega
  rw [e2, Nat.mod_mul_right_div_self]
theorem and_mod (w : BitVec 32) (k : Nat) (hk : k ≤ 32) : (w &&& BitVec.ofNat 32 (2 ^ k - 1)).toNat = w.toNat % 2 ^ k := by
  have h : 2 ^ k - 1 < 2 ^ 32 := by have := Nat.pow_le_pow_right (show 0 < 2 by omega) hk; have := Nat.two_pow_pos k; omega
  rw [BitVec.toNat_and, BitVec.toNat_ofNat, Nat.mod_eq_of_lt h, Nat.and_two_pow_sub_one_eq_mod]
theorem and_hi (x a b k : Nat) (hb : b < 2 ^ k) : x &&& (2 ^ k * a + b) = 2 ^ k * (x / 2 ^ k &&& a) + (x % 2 ^ k &&& b) := by
  apply Nat.eq_of_testBit_eq
  intro i
  have hb' : (x % 2 ^ k &&& b) < 2 ^ k := Nat.lt_of_le_of_lt Nat.and_le_right hb
  rw [Nat.testBit_and, Nat.testBit_two_pow_mul_add _ hb, Nat.testBit_two_pow_mul_add _ hb']
  split
  · rename_i hi
    rw [Nat.testBit_and, Nat.testBit_mod_two_pow]
    simp [hi]
  · rename_i hi
    rw [Nat.testBit_and, Nat.testBit_div_two_pow]
    congr 2; omega
/-- A word under the masks of the patterns. -/
theorem mask7 (w : BitVec 32) : (w &&& 0x7f#32).toNat = fld w 0 7 := by
  have := and_mod w 7 (by omega)
  simpa [fld] using this
theorem mask10 (w : BitVec 32) : (w &&& 0x707f#32).toNat = 4096 * fld w 12 3 + fld w 0 7 := by
  rw [BitVec.toNat_and]
  have h1 := and_hi w.toNat 7 127 12 (by decide)
  have h2 := Nat.and_two_pow_sub_one_eq_mod (w.toNat / 4096) 3
  have h3 := Nat.and_two_pow_sub_one_eq_mod (w.toNat % 4096) 7
  simp only [Nat.reducePow, Nat.reduceMul, Nat.reduceAdd, Nat.reduceSub] at h1 h2 h3
  rw [show (0x707f#32).toNat = 28799 from rfl, h1, h2, h3]
  unfold fld
  simp only [Nat.reducePow, Nat.div_one]
  omega
theorem mask17 (w : BitVec 32) : (w &&& 0xfe00707f#32).toNat = 33554432 * fld w 25 7 + (4096 * fld w 12 3 + fld w 0 7) := by
  rw [BitVec.toNat_and]
  have h0 := and_hi w.toNat 127 28799 25 (by decide)
  have h1 := and_hi (w.toNat % 33554432) 7 127 12 (by decide)
  have h2 := Nat.and_two_pow_sub_one_eq_mod (w.toNat % 33554432 / 4096) 3
  have h3 := Nat.and_two_pow_sub_one_eq_mod (w.toNat % 33554432 % 4096) 7
  have h4 := Nat.and_two_pow_sub_one_eq_mod (w.toNat / 33554432) 7
  simp only [Nat.reducePow, Nat.reduceMul, Nat.reduceAdd, Nat.reduceSub] at h0 h1 h2 h3 h4
  rw [show (0xfe00707f#32).toNat = 4261441663 from rfl, h0, h1, h2, h3, h4]
  unfold fld
  simp only [Nat.reducePow, Nat.div_one]
  omega
/-- An instruction. -/
structure IIn where
  op : Int
  rd : Int
  rs1 : Int
  rs2 : Int
  imm : BitVec 32
  csr : Int
  deriving DecidableEq
def IIn.zero : IIn := ⟨0, 0, 0, 0, 0, 0⟩
def IIn.cells (i : IIn) : List AV := [.int .i64 i.op, .int .i64 i.rd, .int .i64 i.rs1, .int .i64 i.rs2, .int .u32 (i.imm.toNat : Int), .int .i64 i.csr]
section
variable (i : IIn)
@[push_cast] theorem IIn.len : i.cells.length = 6 := rfl
@[push_cast] theorem IIn.c0 : i.cells[0]? = some (.int .i64 i.op) := rfl
@[push_cast] theorem IIn.c1 : i.cells[1]? = some (.int .i64 i.rd) := rfl
@[push_cast] theorem IIn.c2 : i.cells[2]? = some (.int .i64 i.rs1) := rfl
@[push_cast] theorem IIn.c3 : i.cells[3]? = some (.int .i64 i.rs2) := rfl
@[push_cast] theorem IIn.c4 : i.cells[4]? = some (.int .u32 (i.imm.toNat : Int)) := rfl
@[push_cast] theorem IIn.c5 : i.cells[5]? = some (.int .i64 i.csr) := rfl
@[push_cast] theorem IIn.pall : partOf i.cells 0 (some 6) = some (.agg i.cells) := rfl
end
/-- A word's kind; 0: it is no instruction. -/
def immK (f3 f7 : Nat) : Nat := if f3 = 0 then 19 else if f3 = 2 then 20 else if f3 = 3 then 21 else if f3 = 4 then 22 else if f3 = 6 then 23 else if f3 = 7 then 24 else if f3 = 1 then (if f7 = 0 then 25 else 0) else if f7 = 0 then 26 else if f7 = 32 then 27 else 0
def regK (f3 f7 : Nat) : Nat := if f7 = 0 then [28, 30, 31, 32, 33, 34, 36, 37].getD f3 0 else if f7 = 1 then 50 + f3 else if f7 = 32 then (if f3 = 0 then 29 else if f3 = 5 then 35 else 0) else 0
def sysK (f3 : Nat) (w : Nat) : Nat := if f3 = 1 ∨ f3 = 2 ∨ f3 = 3 then 41 + f3 else if f3 = 5 ∨ f3 = 6 ∨ f3 = 7 then 40 + f3 else if w = 0x73 then 40 else if w = 0x100073 then 41 else if w = 0x30200073 then 48 else if w = 0x10500073 then 49 else 0
def branchK (f3 : Nat) : Nat := if f3 = 0 ∨ f3 = 1 then 5 + f3 else if f3 = 4 ∨ f3 = 5 ∨ f3 = 6 ∨ f3 = 7 then 3 + f3 else 0
def loadK (f3 : Nat) : Nat := if f3 = 0 ∨ f3 = 1 ∨ f3 = 2 then 11 + f3 else if f3 = 4 ∨ f3 = 5 then 10 + f3 else 0
def kindK (w : BitVec 32) : Nat :=
  let o := fld w 0 7; let f3 := fld w 12 3; let f7 := fld w 25 7
  if o = 0x37 then 1 else if o = 0x17 then 2 else if o = 0x6f then 3 else if o = 0x67 then (if f3 = 0 then 4 else 0) else if o = 0x63 then branchK f3 else if o = 0x03 then loadK f3
  else if o = 0x23 then (if f3 < 3 then 16 + f3 else 0) else if o = 0x13 then immK f3 f7 else if o = 0x33 then regK f3 f7 else if o = 0x0f then (if f3 < 2 then 38 + f3 else 0) else if o = 0x73 then sysK f3 w.toNat else 0
/-- The patterns of all instructions, from 1 on. -/
def pats : List (BitVec 32 × BitVec 32) := [(0x0000007f, 0x00000037), (0x0000007f, 0x00000017), (0x0000007f, 0x0000006f), (0x0000707f, 0x00000067), (0x0000707f, 0x00000063), (0x0000707f, 0x00001063), (0x0000707f, 0x00004063), (0x0000707f, 0x00005063), (0x0000707f, 0x00006063), (0x0000707f, 0x00007063), (0x0000707f, 0x00000003), (0x0000707f, 0x00001003), (0x0000707f, 0x00002003), (0x0000707f, 0x00004003), (0x0000707f, 0x00005003), (0x0000707f, 0x00000023), (0x0000707f, 0x00001023), (0x0000707f, 0x00002023), (0x0000707f, 0x00000013), (0x0000707f, 0x00002013), (0x0000707f, 0x00003013), (0x0000707f, 0x00004013), (0x0000707f, 0x00006013), (0x0000707f, 0x00007013), (0xfe00707f, 0x00001013), (0xfe00707f, 0x00005013), (0xfe00707f, 0x40005013), (0xfe00707f, 0x00000033), (0xfe00707f, 0x40000033), (0xfe00707f, 0x00001033), (0xfe00707f, 0x00002033), (0xfe00707f, 0x00003033), (0xfe00707f, 0x00004033), (0xfe00707f, 0x00005033), (0xfe00707f, 0x40005033), (0xfe00707f, 0x00006033), (0xfe00707f, 0x00007033), (0x0000707f, 0x0000000f), (0x0000707f, 0x0000100f), (0xffffffff, 0x00000073), (0xffffffff, 0x00100073), (0x0000707f, 0x00001073), (0x0000707f, 0x00002073), (0x0000707f, 0x00003073), (0x0000707f, 0x00005073), (0x0000707f, 0x00006073), (0x0000707f, 0x00007073), (0xffffffff, 0x30200073), (0xffffffff, 0x10500073), (0xfe00707f, 0x02000033), (0xfe00707f, 0x02001033), (0xfe00707f, 0x02002033), (0xfe00707f, 0x02003033), (0xfe00707f, 0x02004033), (0xfe00707f, 0x02005033), (0xfe00707f, 0x02006033), (0xfe00707f, 0x02007033)]
def hitP (w : BitVec 32) (p : BitVec 32 × BitVec 32) : Bool := decide (w &&& p.1 = p.2)
def hitI (w : BitVec 32) (k : Nat) : Bool := hitP w (pats.getD k (0, 1))
end Go.Ab
end
section
/- Blocks: what they are, and when they are right, over numbers and lists alone. -/
set_option linter.unusedSimpArgs false
set_option linter.unusedVariables false
namespace Go.Ab
@[push_cast] theorem bindG_ite {c : Prop} [Decidable c] {v : AV} {K : AV → Prop} : bindG true (if c then some v else none) K = (c ∧ K v) := by
  by_cases hc : c <;> simp [bindG, hc]
attribute [push_cast] Bool.not_eq_true' Bool.not_eq_false'
structure IOp where
  code : Int
  a : Int
  b : Int
  imm : BitVec 32
  x : Int
  y : Int
  deriving DecidableEq
def IOp.zero : IOp := ⟨0, 0, 0, 0, 0, 0⟩
def IOp.cells (o : IOp) : List AV := [.int .i64 o.code, .int .i64 o.a, .int .i64 o.b, .int .u32 (o.imm.toNat : Int), .int .i64 o.x, .int .i64 o.y]
structure IVl where
  reg : Int
  val : Int
  deriving DecidableEq
def IVl.zero : IVl := ⟨0, 0⟩
def IVl.cells (v : IVl) : List AV := [.int .i64 v.reg, .int .i64 v.val]
abbrev vls (l : List IVl) : AV := .ro (l.flatMap IVl.cells) l.length
structure IEx where
  done : Int
  pc : BitVec 32
  to : Int
  why : Int
  map : List IVl
  deriving DecidableEq
def IEx.zero : IEx := ⟨0, 0, 0, 0, []⟩
def IEx.cells (e : IEx) : List AV := [.int .i64 e.done, .int .u32 (e.pc.toNat : Int), .int .i64 e.to, .int .i64 e.why, vls e.map]
abbrev ops (l : List IOp) : AV := .ro (l.flatMap IOp.cells) l.length
abbrev exs (l : List IEx) : AV := .ro (l.flatMap IEx.cells) l.length
structure IBk where
  pcs : List (BitVec 32)
  ops : List IOp
  exits : List IEx
  last : Int
  deriving DecidableEq
def IBk.cells (b : IBk) : List AV := [.ro (wds b.pcs) b.pcs.length, Ab.ops b.ops, exs b.exits, .int .i64 b.last]
abbrev bkP (b : IBk) : AV := .cp b.cells 0
@[push_cast] theorem IOp.len (o : IOp) : o.cells.length = 6 := rfl
@[push_cast] theorem IVl.len (v : IVl) : v.cells.length = 2 := rfl
@[push_cast] theorem IEx.len (e : IEx) : e.cells.length = 5 := rfl
@[push_cast] theorem IBk.len (b : IBk) : b.cells.length = 4 := rfl
section
variable (o : IOp) (v : IVl) (e : IEx) (b : IBk)
@[push_cast] theorem IOp.c0 : o.cells[0]? = some (.int .i64 o.code) := rfl
@[push_cast] theorem IOp.c1 : o.cells[1]? = some (.int .i64 o.a) := rfl
@[push_cast] theorem IOp.c2 : o.cells[2]? = some (.int .i64 o.b) := rfl
@[push_cast] theorem IOp.c3 : o.cells[3]? = some (.int .u32 (o.imm.toNat : Int)) := rfl
@[push_cast] theorem IOp.c4 : o.cells[4]? = some (.int .i64 o.x) := rfl
@[push_cast] theorem IOp.c5 : o.cells[5]? = some (.int .i64 o.y) := rfl
@[push_cast] theorem IOp.s1 (x : Int) : o.cells.set 1 (.int .i64 x) = IOp.cells { o with a := x } := rfl
@[push_cast] theorem IOp.s2 (x : Int) : o.cells.set 2 (.int .i64 x) = IOp.cells { o with b := x } := rfl
@[push_cast] theorem IOp.s4 (x : Int) : o.cells.set 4 (.int .i64 x) = IOp.cells { o with x := x } := rfl
@[push_cast] theorem IOp.s5 (x : Int) : o.cells.set 5 (.int .i64 x) = IOp.cells { o with y := x } := rfl
@[push_cast] theorem IVl.c0 : v.cells[0]? = some (.int .i64 v.reg) := rfl
@[push_cast] theorem IVl.c1 : v.cells[1]? = some (.int .i64 v.val) := rfl
@[push_cast] theorem IEx.c0 : e.cells[0]? = some (.int .i64 e.done) := rfl
@[push_cast] theorem IEx.c1 : e.cells[1]? = some (.int .u32 (e.pc.toNat : Int)) := rfl
@[push_cast] theorem IEx.c2 : e.cells[2]? = some (.int .i64 e.to) := rfl
@[push_cast] theorem IEx.c3 : e.cells[3]? = some (.int .i64 e.why) := rfl
@[push_cast] theorem IEx.c4 : e.cells[4]? = some (vls e.map) := rfl
@[push_cast] theorem IBk.c0 : b.cells[0]? = some (.ro (wds b.pcs) b.pcs.length) := rfl
@[push_cast] theorem IBk.c1 : b.cells[1]? = some (Ab.ops b.ops) := rfl
@[push_cast] theorem IBk.c2 : b.cells[2]? = some (exs b.exits) := rfl
@[push_cast] theorem IBk.c3 : b.cells[3]? = some (.int .i64 b.last) := rfl
@[push_cast] theorem IOp.sp (a b c d e f : AV) : splice [a, b, c, d, e, f] 0 o.cells = o.cells := rfl
@[push_cast] theorem IVl.sp (a b : AV) : splice [a, b] 0 v.cells = v.cells := rfl
@[push_cast] theorem IEx.sp (a b c d f : AV) : splice [a, b, c, d, f] 0 e.cells = e.cells := rfl
@[push_cast] theorem IBk.sp (a c d f : AV) : splice [a, c, d, f] 0 b.cells = b.cells := rfl
theorem IOp.zero_eq : [AV.int .i64 0, .int .i64 0, .int .i64 0, .int .u32 0, .int .i64 0, .int .i64 0] = IOp.zero.cells := rfl
@[push_cast] theorem IOp.pall : partOf o.cells 0 (some 6) = some (.agg o.cells) := rfl
@[push_cast] theorem IVl.pall : partOf v.cells 0 (some 2) = some (.agg v.cells) := rfl
@[push_cast] theorem IEx.pall : partOf e.cells 0 (some 5) = some (.agg e.cells) := rfl
@[push_cast] theorem IBk.pall : partOf b.cells 0 (some 4) = some (.agg b.cells) := rfl
end
theorem flat_getD {α : Type} (f : α → List AV) (n : Nat) (l : List α) (d : α) (hf : ∀ x, (f x).length = n) (k j : Nat) (hj : j < n) : (l.flatMap f)[k * n + j]? = if k < l.length then (f (l.getD k d))[j]? else none := by
  split
  · rename_i hk
    have h1 := flat_drop f n l (fun x _ => hf x) k (by omega)
    rw [List.drop_eq_getElem_cons hk, List.flatMap_cons] at h1
    rw [← List.getElem?_drop, h1, List.getElem?_append_left (by rw [hf]; exact hj)]
    simp [hk]
  · rename_i hk
    refine List.getElem?_eq_none ?_
    rw [flat_len f n l fun x _ => hf x]
    have := Nat.mul_le_mul_right n (Nat.not_lt.1 hk)
    omega
theorem flat_partD {α : Type} (f : α → List AV) (n : Nat) (l : List α) (d : α) (hf : ∀ x, (f x).length = n) (hn : 0 < n) (k : Nat) : partOf (l.flatMap f) (k * n) (some n) = if k < l.length then some (.agg (f (l.getD k d))) else none := by
  split
  · rename_i hk
    rw [flat_part f n l (fun x _ => hf x) k hk]
    simp [hk]
  · rename_i hk
    rw [partOf_some, if_neg]
    rw [flat_len f n l fun x _ => hf x]
    have := Nat.mul_le_mul_right n (Nat.not_lt.1 hk)
    omega
section
variable (l : List IOp) (m : List IVl) (es : List IEx) (k : Nat)
@[push_cast] theorem ops_0 : (l.flatMap IOp.cells)[k * 6]? = if k < l.length then some (.int .i64 (l.getD k IOp.zero).code) else none := by rw [← Nat.add_zero (k * 6), flat_getD _ _ _ IOp.zero IOp.len _ _ (by omega)]; rfl
@[push_cast] theorem ops_1 : (l.flatMap IOp.cells)[k * 6 + 1]? = if k < l.length then some (.int .i64 (l.getD k IOp.zero).a) else none := by rw [flat_getD _ _ _ IOp.zero IOp.len _ _ (by omega)]; rfl
@[push_cast] theorem ops_2 : (l.flatMap IOp.cells)[k * 6 + 2]? = if k < l.length then some (.int .i64 (l.getD k IOp.zero).b) else none := by rw [flat_getD _ _ _ IOp.zero IOp.len _ _ (by omega)]; rfl
@[push_cast] theorem ops_3 : (l.flatMap IOp.cells)[k * 6 + 3]? = if k < l.length then some (.int .u32 ((l.getD k IOp.zero).imm.toNat : Int)) else none := by rw [flat_getD _ _ _ IOp.zero IOp.len _ _ (by omega)]; rfl
@[push_cast] theorem ops_4 : (l.flatMap IOp.cells)[k * 6 + 4]? = if k < l.length then some (.int .i64 (l.getD k IOp.zero).x) else none := by rw [flat_getD _ _ _ IOp.zero IOp.len _ _ (by omega)]; rfl
@[push_cast] theorem ops_5 : (l.flatMap IOp.cells)[k * 6 + 5]? = if k < l.length then some (.int .i64 (l.getD k IOp.zero).y) else none := by rw [flat_getD _ _ _ IOp.zero IOp.len _ _ (by omega)]; rfl
@[push_cast] theorem ops_p : partOf (l.flatMap IOp.cells) (k * 6) (some 6) = if k < l.length then some (.agg (l.getD k IOp.zero).cells) else none := flat_partD _ _ _ IOp.zero IOp.len (by omega) _
@[push_cast] theorem vls_0 : (m.flatMap IVl.cells)[k * 2]? = if k < m.length then some (.int .i64 (m.getD k IVl.zero).reg) else none := by rw [← Nat.add_zero (k * 2), flat_getD _ _ _ IVl.zero IVl.len _ _ (by omega)]; rfl
@[push_cast] theorem vls_1 : (m.flatMap IVl.cells)[k * 2 + 1]? = if k < m.length then some (.int .i64 (m.getD k IVl.zero).val) else none := by rw [flat_getD _ _ _ IVl.zero IVl.len _ _ (by omega)]; rfl
@[push_cast] theorem vls_p : partOf (m.flatMap IVl.cells) (k * 2) (some 2) = if k < m.length then some (.agg (m.getD k IVl.zero).cells) else none := flat_partD _ _ _ IVl.zero IVl.len (by omega) _
@[push_cast] theorem exs_4 : (es.flatMap IEx.cells)[k * 5 + 4]? = if k < es.length then some (vls (es.getD k IEx.zero).map) else none := by rw [flat_getD _ _ _ IEx.zero IEx.len _ _ (by omega)]; rfl
@[push_cast] theorem exs_p : partOf (es.flatMap IEx.cells) (k * 5) (some 5) = if k < es.length then some (.agg (es.getD k IEx.zero).cells) else none := flat_partD _ _ _ IEx.zero IEx.len (by omega) _
end
theorem le_sub {r r' : AV} {h1 h2 h' : Heap} (hs : Sub h1 h') (hl : Le r h1 r' h2) : Le r h' r' h2 := by
  intro w v hw hr
  obtain ⟨k1, k2⟩ := hrep_less hw hs
  obtain ⟨x, y, z⟩ := hl w v k1 (hr.keep k2.keeps)
  exact ⟨x, y, fun b hb => z b (hs.none hb)⟩
/-- All numbers below one. -/
def allN (n : Nat) (p : Nat → Bool) : Bool := (List.range n).all p
theorem allN_true {n : Nat} {p : Nat → Bool} (h : ∀ i, i < n → p i = true) : allN n p = true := by
  simp only [allN, List.all_eq_true, List.mem_range]; exact h
theorem allN_false {n : Nat} {p : Nat → Bool} (k : Nat) (hk : k < n) (h : p k = false) : allN n p = false := by
  rw [← Bool.not_eq_true]
  intro h2
  simp only [allN, List.all_eq_true, List.mem_range] at h2
  rw [h2 k hk] at h; cases h
theorem allN_get {n : Nat} {p : Nat → Bool} (h : allN n p = true) (k : Nat) (hk : k < n) : p k = true := by
  simp only [allN, List.all_eq_true, List.mem_range] at h; exact h k hk
def IBk.op (b : IBk) (k : Nat) : IOp := b.ops.getD k IOp.zero
def IBk.ex (b : IBk) (k : Nat) : IEx := b.exits.getD k IEx.zero
def IEx.vl (e : IEx) (k : Nat) : IVl := e.map.getD k IVl.zero
/-- Is it a value's number, ahead of an operation? -/
def IBk.val (b : IBk) (n ahead : Int) : Bool := decide (0 ≤ n) && decide (n < ahead) && decide (n < b.ops.length) && decide (1 ≤ (b.op n.toNat).code) && decide ((b.op n.toNat).code ≤ 4)
/-- Is it an exit's number, whose values are ahead of an operation? -/
def IBk.exit (b : IBk) (n ahead : Int) : Bool := decide (0 ≤ n) && decide (n < b.exits.length) && (decide ((b.ex n.toNat).to = -1) || b.val (b.ex n.toNat).to ahead) && allN (b.ex n.toNat).map.length fun i => b.val ((b.ex n.toNat).vl i).val ahead
def loadsN (n : Int) : Int := if n = 11 ∨ n = 14 then 1 else if n = 12 ∨ n = 15 then 2 else if n = 13 then 4 else 0
def storesN (n : Int) : Int := if n = 16 then 1 else if n = 17 then 2 else if n = 18 then 4 else 0
def reckonsN (n : Int) : Bool := decide (19 ≤ n) && decide (n ≤ 37) || decide (50 ≤ n) && decide (n ≤ 57)
def kindN (o : IOp) : Bool :=
  let n : Int := o.imm.toNat
  if o.code = 1 then decide (1 ≤ n) && decide (n ≤ 31) else if o.code = 2 then true else if o.code = 3 then reckonsN n else if o.code = 4 then decide (0 < loadsN n) else if o.code = 5 then decide (0 < storesN n) else if o.code = 6 then decide (5 ≤ n) && decide (n ≤ 10) else false
def IBk.opR (b : IBk) (k : Nat) : Bool :=
  let o := b.op k
  let n : Int := o.imm.toNat
  if o.code = 1 then decide (1 ≤ n) && decide (n ≤ 31) && decide (o.x = 0) && decide (o.y = 0) && decide (o.a = 0) && decide (o.b = 0)
  else if o.code = 2 then decide (o.x = 0) && decide (o.y = 0) && decide (o.a = 0) && decide (o.b = 0)
  else if o.code = 3 then reckonsN n && decide (o.x = 0) && decide (o.y = 0) && b.val o.a k && b.val o.b k
  else if o.code = 4 then decide (0 < loadsN n) && decide (o.y = 0) && decide (o.b = 0) && b.val o.a k && b.exit o.x k
  else if o.code = 5 then decide (0 < storesN n) && b.val o.a k && b.val o.b k && b.exit o.x k && b.exit o.y k
  else if o.code = 6 then decide (5 ≤ n) && decide (n ≤ 10) && decide (o.y = 0) && b.val o.a k && b.val o.b k && b.exit o.x k
  else false
def IBk.leaves (b : IBk) (n : Nat) : Bool :=
  let e := b.ex n
  b.exit n b.ops.length && decide (0 ≤ e.done) && decide (e.done ≤ b.pcs.length) && decide (e.pc.toNat % 4 = 0) && decide (1 ≤ e.why) && decide (e.why ≤ 4) &&
    allN e.map.length fun i => decide (1 ≤ (e.vl i).reg) && decide ((e.vl i).reg ≤ 31) && (decide (i = 0) || decide ((e.vl (i - 1)).reg < (e.vl i).reg))
def pcR (l : List (BitVec 32)) (i : Nat) : Bool := decide ((l.getD i 0#32).toNat % 4 = 0)
def IBk.right (b : IBk) : Bool := allN b.ops.length b.opR && allN b.exits.length b.leaves && allN b.pcs.length (pcR b.pcs) && decide (0 < b.pcs.length) && b.exit b.last b.ops.length
def IBk.long (b : IBk) : Bool := decide (32 < b.pcs.length) || decide (512 < b.ops.length) || decide (128 < b.exits.length)
def IBk.check (b : IBk) : Int := if b.long then 3 else if b.right then 0 else 1
end Go.Ab
end
section
/- What lies in a box may be seen as data; a box may be. -/
set_option linter.unusedSimpArgs false
set_option linter.unusedVariables false
namespace Go.Ab
theorem Le.box {g : Heap} {b : Nat} {cells : List AV} {sp : Nat} (hb : g b = none) : Le (.ptr b 0) (upd g b ⟨cells, sp⟩) (.cp cells 0) g := by
  intro w v hw hr
  have hkc := rep_ptrC hr
  rw [rep_ptr hr]
  obtain ⟨l1, l2, l3, l4⟩ := hrep_new hb hw
  have l4 := l4 hkc
  refine ⟨l1, ?_, l2⟩
  exact .cp cells 0 b 0 (fun i => (w.cell? ⟨b, i, none⟩).getD undef) l3 (fun hd => hd hb) (fun i v hv => by
    obtain ⟨cv, e1, e2, _⟩ := l4 i v hv
    rw [Nat.zero_add, e1]; exact ⟨rfl, e2⟩) (fun i v hv => by
    obtain ⟨cv, e1, _, e3⟩ := l4 i v hv
    rw [e1]; exact e3)
theorem sub_upd {h g : Heap} {b : Nat} {X : Blk} (hb : h b = none) (hs : Sub h g) : Sub h (upd g b X) := by
  intro d y hd
  have : ¬ d = b := fun e => by rw [e, hb] at hd; cases hd
  rw [upd_at, if_neg this]
  exact hs d y hd
theorem le_tup1 {r r' : AV} {h h' : Heap} {k : IntKind} {x : Int} (hl : Le r h r' h') : Le (.tup [r, .int k x]) h (.tup [r', .int k x]) h' := by
  intro w v hw hr
  obtain ⟨cs, rfl, hl1, hr1⟩ := rep_tup hr
  obtain ⟨a, b, rfl⟩ : ∃ a b, cs = #[a, b] := by
    match cs, hl1 with
    | ⟨[a, b]⟩, _ => exact ⟨a, b, rfl⟩
  obtain ⟨x1, x2, x3⟩ := hl w a hw (hr1 0 r a rfl rfl)
  refine ⟨x1, .tup _ _ rfl fun i u c h1 h2 => ?_, x3⟩
  match i with
  | 0 => simp at h1 h2; subst h1; subst h2; exact x2
  | 1 =>
    simp at h1 h2; subst h1; subst h2
    have := hr1 1 (.int k x) b rfl rfl
    rw [rep_int this]; exact .int _ _
  | i + 2 => simp at h1
theorem le_trans {a b c : AV} {h h1 h2 : Heap} (x : Le a h b h1) (y : Le b h1 c h2) : Le a h c h2 := by
  intro w v hw hr
  obtain ⟨p, q, r⟩ := x w v hw hr
  obtain ⟨p', q', r'⟩ := y w v p q
  exact ⟨p', q', fun d hd => r' d (r d hd)⟩
theorem upd_dom {g : Heap} {b : Nat} {x y : Blk} : (upd g b x).dom = (upd g b y).dom := by
  funext c
  simp only [Heap.dom, upd]
  split <;> simp
/-- A row that lies in a box of one's own, seen as data there. -/
theorem Le.cell {sz n : Nat} {g h : Heap} {v u : AV} {cells cs cs' : List AV} {b sp : Nat} (ho : Own sz (upd g b ⟨cs, sp⟩) v cells n h) (hl : cs'.length = cs.length)
    (hc : ∀ i : Nat, cs'[i]? = cs[i]? ∨ (cs[i]? = some v ∧ cs'[i]? = some (AV.ro cells n))) : Le u h u (upd g b ⟨cs', sp⟩) := by
  intro w x hw hr
  obtain ⟨l1, l2⟩ := hrep_less hw ho.sub
  have hd : (upd g b ⟨cs', sp⟩).dom = (upd g b ⟨cs, sp⟩).dom := upd_dom
  refine ⟨?_, by rw [hd]; exact hr.keep l2.keeps, fun c hc => ?_⟩
  · intro c y hy
    by_cases e : c = b
    · subst e
      rw [upd_same] at hy
      cases hy
      rcases hw c ⟨cs, sp⟩ (ho.get (upd_same _ _ _)) with ⟨arr, t, e1, e2, e3⟩ | ⟨o, e1, e2, e3⟩
      rotate_left
      · cases e1
        have : cs' = [.raw o] := by
          match cs', hl with
          | [z], _ =>
            rcases hc 0 with q | ⟨q, _⟩
            · simpa using q
            · exfalso
              simp only [List.getElem?_cons_zero, Option.some.injEq] at q
              subst q
              cases ho
        subst this
        exact .inr ⟨o, rfl, e2, e3⟩
      refine .inl ⟨arr, t, e1, by rw [hl]; exact e2, fun i z hz => ?_⟩
      rcases hc i with q | ⟨q1, q2⟩
      · simp only at hz
        rw [q] at hz
        obtain ⟨cv, f1, f2, f3⟩ := e3 i z hz
        exact ⟨cv, f1, f2, by rw [hd]; exact f3.keep l2.keeps⟩
      · simp only at hz
        rw [q2] at hz
        cases hz
        obtain ⟨cv, f1, f2, f3⟩ := e3 i v q1
        refine ⟨cv, f1, f2, ?_⟩
        rw [hd]
        exact (ho.freeze w cv hw f3).2.1
    · rw [upd_ne e] at hy
      exact own_keep (l1 c y (by rw [upd_ne e]; exact hy)) rfl ⟨Nat.le_refl _, fun b _ hn => ⟨by rw [hd]; exact hn, rfl⟩, fun _ h => h⟩
  · have := ho.sub.none hc
    simp only [upd] at this ⊢
    split at this
    · cases this
    · rename_i e; rw [if_neg e]; exact this
theorem wkQ.cell {sz n : Nat} {g h : Heap} {v u : AV} {cells cs cs' : List AV} {b sp : Nat} {K : AV → Heap → Prop} (ho : Own sz (upd g b ⟨cs, sp⟩) v cells n h) (hl : cs'.length = cs.length)
    (hc : ∀ i : Nat, cs'[i]? = cs[i]? ∨ (cs[i]? = some v ∧ cs'[i]? = some (AV.ro cells n))) (hq : K u (upd g b ⟨cs', sp⟩)) : wkQ K u h := ⟨_, _, Le.cell ho hl hc, hq⟩
end Go.Ab
end
section
/- A region of open order by what holds behind each of its operations, whichever were ahead. -/
set_option linter.unusedSimpArgs false
set_option linter.unusedVariables false
namespace Go.Ab
def altB : OT → Bool → Bool
  | .nil, _ => true
  | _, b => b
/-- A tree's ways, held against what must have been ahead of each. -/
def wlk (es R R2 : List Nat) (D : Nat → List Nat) : OT → List Nat → Bool
  | .nil, pre => es.all pre.contains
  | .r i t, pre => es.contains i && !pre.contains i && (D i).all pre.contains && wlk es R R2 D t (i :: pre)
  | .e i fl t alt, pre => (es.contains i && !pre.contains i && (D i).all pre.contains && (fl.all fun j => R.contains j || (R2.contains j && pre.contains j)) && wlk es R R2 D t (i :: pre)) && altB alt (wlk es R R2 D alt pre)
theorem dwpT_inv {P : Program} {G : Glo} {ops : List AOp} {es R R2 : List Nat} {D : Nat → List Nat} {I : List Nat → Env → Heap → Prop} {Q : Env → Heap → Prop}
    (hs : ∀ i ∈ es, ∀ (fl pre : List Nat) (ρ : Env) (h : Heap) (K : Env → Heap → Prop), (∀ j ∈ fl, j ∈ R ∨ (j ∈ R2 ∧ j ∈ pre)) → i ∉ pre → (∀ j ∈ D i, j ∈ pre) → I pre ρ h → (∀ ρ' h', I (i :: pre) ρ' h' → K ρ' h') → bindO ops[i]? fun o => dst P G o ρ h (stbC G ops fl ρ) K)
    (hq : ∀ pre ρ h, (∀ j ∈ es, j ∈ pre) → I pre ρ h → Q ρ h) : ∀ (t : OT) (pre : List Nat) (ρ : Env) (h : Heap), wlk es R R2 D t pre = true → I pre ρ h → dwpT P G ops Q t ρ h := by
  intro t
  induction t with
  | nil =>
    intro pre ρ h hw hI
    simp only [wlk, List.all_eq_true, List.contains_iff_mem] at hw
    rw [dwpT_nil]
    exact hq pre ρ h hw hI
  | r i t ih =>
    intro pre ρ h hw hI
    simp only [wlk, Bool.and_eq_true, Bool.not_eq_true', List.all_eq_true, List.contains_iff_mem] at hw
    obtain ⟨⟨⟨w1, w2⟩, w3⟩, w4⟩ := hw
    have w2' : i ∉ pre := fun q => by rw [← List.contains_iff_mem, w2] at q; cases q
    have := hs i w1 [] pre ρ h (dwpT P G ops Q t) (fun j q => by cases q) w2' w3 hI fun ρ' h' q => ih _ ρ' h' w4 q
    rw [dwpT_r]
    exact this
  | e i fl t alt ih1 ih2 =>
    intro pre ρ h hw hI
    simp only [wlk, Bool.and_eq_true, Bool.not_eq_true', List.all_eq_true, List.contains_iff_mem, Bool.or_eq_true] at hw
    obtain ⟨⟨⟨⟨⟨w1, w2⟩, w3⟩, w5⟩, w4⟩, w6⟩ := hw
    have w2' : i ∉ pre := fun q => by rw [← List.contains_iff_mem, w2] at q; cases q
    have := hs i w1 fl pre ρ h (dwpT P G ops Q t) w5 w2' w3 hI fun ρ' h' q => ih1 _ ρ' h' w4 q
    rw [dwpT_e]
    refine ⟨this, ?_⟩
    cases alt with
    | nil => rw [altC_nil]; trivial
    | r j u => exact ih2 pre ρ h w6 hI
    | e j fl' u a' => rw [altC_e]; exact ih2 pre ρ h w6 hI
def opsOf : ACode → List AOp
  | .dregt ops _ _ => ops
  | _ => []
def edgOf : ACode → List (List Nat)
  | .dregt _ es _ => es
  | _ => []
theorem stb_of {G : Glo} {ops : List AOp} {ρ : Env} {h : Heap} {S : List Nat} (hp : ∀ j ∈ S, bindO ops[j]? fun o => pend G o ρ h) : ∀ fl : List Nat, (∀ j ∈ fl, j ∈ S) → stb G ops ρ h fl := by
  intro fl
  induction fl with
  | nil => intro _; trivial
  | cons j r ih =>
    intro hf
    refine ⟨?_, ih fun i hi => hf i (by simp [hi])⟩
    have := hp j (hf j (by simp))
    revert this
    unfold bindO
    cases ops[j]? <;> exact id
end Go.Ab
end
section
/- The code of some functions, with what their types tell written out; each is what the translation gives (kernel_rfl). Printed by mk.py out of the translation. -/
namespace Go.Ab
open Go.Proofs Go.Sc
set_option maxRecDepth 100000
/-- mimesis/mimesislaw25.ApplyNils -/
abbrev C3_0 := Ro [⟨(some 3),none,.e (.box t0)⟩,Br 4 t1,As 6 kF]
abbrev C3_1 := Ro [Ld 15 (some 50) t3,Ld 16 (some 4) t4,Ca 17 4 [t15,t16],Un 18 .not t17,Mv 19 t18,Ldf 20 19 (some 4) t4,Caf 21 19 5 [t20],Bnf 22 19 .neq t21 (kI 0),Pk 23 t19 kT t22]
abbrev C3_2 := Ro [Ca 24 6 [],As 6 t24]
abbrev C3_3 := Sq [6] C3_2 .ret
abbrev C3_4 := Cd t23 C3_3 .skip
abbrev C3_5 := Sq [2,3,4,23] C3_1 C3_4
abbrev C3_6 := Ro [Ld 25 (some 4) t4,Ca 26 7 [t25],As 7 t26]
abbrev C3_7 := Ro [Mv 28 t7,Mv 29 t2,Ca 30 8 [kP,t28,t29],Mv 27 t30,Ex 31 0 t27,Ex 32 1 t27,Al 8 [z4,z4,z4,z4,z4,z4,z4,z4,z4,z4,z4,z4,z4,z4,z4,z4,z4,z4,z4,z4,z4,z4,z4,z4,z4,z4,z4,z4,z4,z4,z4,z4,z4,zi,zi,zi],Sxn 36 t8 t31,As 9 t32]
abbrev C3_8 := Ro [Fa 33 0 t4,Ld 34 none t33,Ix 35 1 t34 (kI 0),Ld 36 none t35,Fa 37 3 t3,Sxn 1 t37 t36]
abbrev C3_9 := Ro [Ld 38 (some 50) t3,Ca 39 9 [t38],As 10 t39]
abbrev C3_10 := Ro [Mv 41 t10,Mv 42 t2,Ca 43 8 [t41,kP,t42],Mv 40 t43,Ex 44 0 t40,Ex 45 1 t40,Al 11 [z4,z4,z4,z4,z4,z4,z4,z4,z4,z4,z4,z4,z4,z4,z4,z4,z4,z4,z4,z4,z4,z4,z4,z4,z4,z4,z4,z4,z4,z4,z4,z4,z4,zi,zi,zi],Sxn 36 t11 t44,As 12 t45]
abbrev C3_11 := Ro [Mv 46 t10,Ca 47 10 [t46],Ca 48 11 [t47,(kU 1048576),(kI 4),(kU 1),(kL 0)]]
abbrev C3_12 := Ro [Mv 50 t10,Mv 51 t7,Ca 52 8 [t50,t51,(kI 32)],Mv 49 t52,Ex 53 0 t49,Ex 54 1 t49,Al 13 [z4,z4,z4,z4,z4,z4,z4,z4,z4,z4,z4,z4,z4,z4,z4,z4,z4,z4,z4,z4,z4,z4,z4,z4,z4,z4,z4,z4,z4,z4,z4,z4,z4,zi,zi,zi],Sxn 36 t13 t53,As 14 t54]
abbrev C3_13 := Ro [Mv 55 t9,Bn 56 .eql t55 (kI 2),Mv 57 t56,Mvt 58 57 t12,Bnt 59 57 .eql t58 (kI 1),Pk 60 t57 t59 kF,Mv 61 t60,Mvt 62 61 t14,Bnt 63 61 .eql t62 (kI 4),Pk 64 t61 t63 kF,Mv 65 t64,Ldt 66 65 (some 36) t8,⟨(some 67),(some (65,true)),.r (.bld [z4,z4,z4,z4,z4,z4,z4,z4,z4,z4,z4,z4,z4,z4,z4,z4,z4,z4,z4,z4,z4,z4,z4,z4,z4,z4,z4,z4,z4,z4,z4,z4,z4,zi,zi,zi] [])⟩,⟨(some 68),(some (65,true)),.r (.eqa false [.i,.i,.i,.i,.i,.i,.i,.i,.i,.i,.i,.i,.i,.i,.i,.i,.i,.i,.i,.i,.i,.i,.i,.i,.i,.i,.i,.i,.i,.i,.i,.i,.i,.i,.i,.i] t66 t67)⟩,Pk 69 t65 t68 kF,Mv 70 t69,Ldt 71 70 (some 36) t11,⟨(some 72),(some (70,true)),.r (.bld [z4,z4,z4,z4,z4,z4,z4,z4,z4,z4,z4,z4,z4,z4,z4,z4,z4,z4,z4,z4,z4,z4,z4,z4,z4,z4,z4,z4,z4,z4,z4,z4,z4,zi,zi,zi] [])⟩,⟨(some 73),(some (70,true)),.r (.eqa false [.i,.i,.i,.i,.i,.i,.i,.i,.i,.i,.i,.i,.i,.i,.i,.i,.i,.i,.i,.i,.i,.i,.i,.i,.i,.i,.i,.i,.i,.i,.i,.i,.i,.i,.i,.i] t71 t72)⟩,Pk 74 t70 t73 kF,Mv 75 t74,Ldt 76 75 (some 36) t13,⟨(some 77),(some (75,true)),.r (.bld [z4,z4,z4,z4,z4,z4,z4,z4,z4,z4,z4,z4,z4,z4,z4,z4,z4,z4,z4,z4,z4,z4,z4,z4,z4,z4,z4,z4,z4,z4,z4,z4,z4,zi,zi,zi] [])⟩,⟨(some 78),(some (75,true)),.r (.eqa false [.i,.i,.i,.i,.i,.i,.i,.i,.i,.i,.i,.i,.i,.i,.i,.i,.i,.i,.i,.i,.i,.i,.i,.i,.i,.i,.i,.i,.i,.i,.i,.i,.i,.i,.i,.i] t76 t77)⟩,Pk 79 t75 t78 kF,Mv 80 t79,Mvt 81 80 t7,Mvt 82 80 t2,Cat 83 80 12 [kP,t81,t82],Unt 84 80 .not t83,Pk 85 t80 t84 kF,Mv 86 t85,Mvt 87 86 t10,Mvt 88 86 t2,Cat 89 86 12 [t87,kP,t88],Unt 90 86 .not t89,Pk 91 t86 t90 kF,Mv 92 t91,Mvt 93 92 t10,Mvt 94 92 t7,Cat 95 92 12 [t93,t94,(kI 32)],Unt 96 92 .not t95,Pk 97 t92 t96 kF,Mv 98 t97,Cat 99 98 6 [],Pk 100 t98 t99 kF,As 6 t100]
abbrev C3_14 := Sq [6] C3_13 .ret
abbrev C3_15 : ACode := .fz 13 C3_14
abbrev C3_16 := Sq [2,7,8,9,10,11,12,13,14] C3_12 C3_15
abbrev C3_17 := Sq [2,7,8,9,10,11,12] C3_11 C3_16
abbrev C3_18 : ACode := .fz 11 C3_17
abbrev C3_19 := Sq [2,7,8,9,10,11,12] C3_10 C3_18
abbrev C3_20 := Sq [2,7,8,9,10] C3_9 C3_19
abbrev C3_21 := Sq [2,3,7,8,9] C3_8 C3_20
abbrev C3_22 : ACode := .fz 8 C3_21
abbrev C3_23 := Sq [2,3,4,7,8,9] C3_7 C3_22
abbrev C3_24 := Sq [2,3,4,7] C3_6 C3_23
abbrev C3_25 := Sq [2,3,4] C3_5 C3_24
abbrev C3_26 := Sq [2,3,4] C3_0 C3_25
abbrev C3 := C3_26
abbrev C3r : List RV := [.t 6]
theorem C3ok : Okf Tryz.prog 3 Tryz.f3 C3 C3r := ⟨Tryz.func3, by kernel_rfl, by kernel_rfl, by kernel_rfl⟩

/-- mimesis/mimesislaw25.light -/
abbrev C4_0 := Ro [Br 2 t0,Br 3 t1,As 4 kF]
abbrev C4_1 := Ro [Fa 6 0 t2,Ld 7 none t6,Bn 8 .gtr t7 (kI 1024),Mv 9 t8,Faf 10 9 1 t2,Ldf 11 9 none t10,Lnf 12 9 t11,Bnf 13 9 .gtr t12 (kI 30),Pk 14 t9 kT t13,Mv 15 t14,Faf 16 15 2 t2,Ldf 17 15 none t16,Lnf 18 15 t17,Bnf 19 15 .gtr t18 (kI 256),Pk 20 t15 kT t19,Mv 21 t20,Ldf 22 21 (some 50) t2,Caf 23 21 13 [t22],Unf 24 21 .not t23,Pk 25 t21 kT t24,Mv 26 t25,Faf 27 26 0 t3,Ldf 28 26 none t27,Lnf 29 26 t28,Bnf 30 26 .gtr t29 (kI 100),Pk 31 t26 kT t30,Mv 32 t31,Faf 33 32 1 t3,Ldf 34 32 none t33,Lnf 35 32 t34,Bnf 36 32 .gtr t35 (kI 600),Pk 37 t32 kT t36,Mv 38 t37,Faf 39 38 2 t3,Ldf 40 38 none t39,Lnf 41 38 t40,Bnf 42 38 .gtr t41 (kI 200),Pk 43 t38 kT t42]
abbrev C4_2 := Ro [As 4 kF]
abbrev C4_3 := Sq [4] C4_2 .ret
abbrev C4_4 := Cd t43 C4_3 .skip
abbrev C4_5 := Sq [2,3,43] C4_1 C4_4
abbrev C4_6 := Ro [As 5 (kI 0)]
abbrev C4_7 := Ro [Mv 44 t5,Fa 45 2 t3,Ld 46 none t45,Ln 47 t46,Bn 48 .lss t44 t47]
abbrev C4_8 := Cd t48 .skip (.exit 0)
abbrev C4_9 := Sq [2,3,5,48] C4_7 C4_8
abbrev C4_10 := Ro [Fa 51 2 t3,Ld 52 none t51,Mv 53 t5,Ix 54 5 t52 t53,Fa 55 4 t54,Ld 56 none t55,Ln 57 t56,Bn 58 .gtr t57 (kI 100)]
abbrev C4_11 := Ro [As 4 kF]
abbrev C4_12 := Sq [4] C4_11 .ret
abbrev C4_13 := Cd t58 C4_12 .skip
abbrev C4_14 := Sq [2,3,5,58] C4_10 C4_13
abbrev C4_15 := Bk 1 C4_14
abbrev C4_16 := Ro [Mv 49 t5,Bn 50 .add t49 (kI 1),As 5 t50]
abbrev C4_17 := Sq [2,3,5] C4_15 C4_16
abbrev C4_18 := Sq [2,3,5] C4_9 C4_17
abbrev C4_19 : ACode := .loop C4_18
abbrev C4_20 := Bk 0 C4_19
abbrev C4_21 := Sq [2,3,5] C4_6 C4_20
abbrev C4_22 := Ro [Fa 59 48 t2,Ld 60 none t59,Bn 61 .lss t60 (kL 1152921504606846976),Mv 62 t61,Fat 63 62 45 t2,Fat 64 62 0 t63,Ldt 65 62 none t64,Bnt 66 62 .lss t65 (kL 1152921504606846976),Pk 67 t62 t66 kF,As 4 t67]
abbrev C4_23 := Sq [4] C4_22 .ret
abbrev C4_24 := Sq [2] C4_21 C4_23
abbrev C4_25 := Sq [2,3] C4_5 C4_24
abbrev C4_26 := Sq [2,3] C4_0 C4_25
abbrev C4 := C4_26
abbrev C4r : List RV := [.t 4]
theorem C4ok : Okf Tryz.prog 4 Tryz.f4 C4 C4r := ⟨Tryz.func4, by kernel_rfl, by kernel_rfl, by kernel_rfl⟩

/-- mimesis/mimesisref23.Check -/
abbrev C5_0 := Ro [Br 1 t0,As 2 (kI 0)]
abbrev C5_1 := Ro [Fa 6 0 t1,Ld 7 none t6,Ln 8 t7,Bn 9 .gtr t8 (kI 32),Mv 10 t9,Faf 11 10 1 t1,Ldf 12 10 none t11,Lnf 13 10 t12,Bnf 14 10 .gtr t13 (kI 512),Pk 15 t10 kT t14,Mv 16 t15,Faf 17 16 2 t1,Ldf 18 16 none t17,Lnf 19 16 t18,Bnf 20 16 .gtr t19 (kI 128),Pk 21 t16 kT t20]
abbrev C5_2 := Ro [As 2 (kI 3)]
abbrev C5_3 := Sq [2] C5_2 .ret
abbrev C5_4 := Cd t21 C5_3 .skip
abbrev C5_5 := Sq [1,21] C5_1 C5_4
abbrev C5_6 := Ro [As 3 (kI 0)]
abbrev C5_7 := Ro [Mv 22 t3,Fa 23 1 t1,Ld 24 none t23,Ln 25 t24,Bn 26 .lss t22 t25]
abbrev C5_8 := Cd t26 .skip (.exit 0)
abbrev C5_9 := Sq [1,3,26] C5_7 C5_8
abbrev C5_10 := Ro [Ld 29 (some 4) t1,Mv 30 t3,Ca 31 14 [t29,t30],Un 32 .not t31]
abbrev C5_11 := Ro [As 2 (kI 1)]
abbrev C5_12 := Sq [2] C5_11 .ret
abbrev C5_13 := Cd t32 C5_12 .skip
abbrev C5_14 := Sq [1,3,32] C5_10 C5_13
abbrev C5_15 := Bk 1 C5_14
abbrev C5_16 := Ro [Mv 27 t3,Bn 28 .add t27 (kI 1),As 3 t28]
abbrev C5_17 := Sq [1,3] C5_15 C5_16
abbrev C5_18 := Sq [1,3] C5_9 C5_17
abbrev C5_19 : ACode := .loop C5_18
abbrev C5_20 := Bk 0 C5_19
abbrev C5_21 := Sq [1,3] C5_6 C5_20
abbrev C5_22 := Ro [As 4 (kI 0)]
abbrev C5_23 := Ro [Mv 33 t4,Fa 34 2 t1,Ld 35 none t34,Ln 36 t35,Bn 37 .lss t33 t36]
abbrev C5_24 := Cd t37 .skip (.exit 2)
abbrev C5_25 := Sq [1,4,37] C5_23 C5_24
abbrev C5_26 := Ro [Ld 40 (some 4) t1,Mv 41 t4,Ca 42 15 [t40,t41],Un 43 .not t42]
abbrev C5_27 := Ro [As 2 (kI 1)]
abbrev C5_28 := Sq [2] C5_27 .ret
abbrev C5_29 := Cd t43 C5_28 .skip
abbrev C5_30 := Sq [1,4,43] C5_26 C5_29
abbrev C5_31 := Bk 3 C5_30
abbrev C5_32 := Ro [Mv 38 t4,Bn 39 .add t38 (kI 1),As 4 t39]
abbrev C5_33 := Sq [1,4] C5_31 C5_32
abbrev C5_34 := Sq [1,4] C5_25 C5_33
abbrev C5_35 : ACode := .loop C5_34
abbrev C5_36 := Bk 2 C5_35
abbrev C5_37 := Sq [1,4] C5_22 C5_36
abbrev C5_38 := Ro [As 5 (kI 0)]
abbrev C5_39 := Ro [Mv 44 t5,Fa 45 0 t1,Ld 46 none t45,Ln 47 t46,Bn 48 .lss t44 t47]
abbrev C5_40 := Cd t48 .skip (.exit 4)
abbrev C5_41 := Sq [1,5,48] C5_39 C5_40
abbrev C5_42 := Ro [Fa 51 0 t1,Ld 52 none t51,Mv 53 t5,Ix 54 1 t52 t53,Ld 55 none t54,Bn 56 .rem t55 (kU 4),Bn 57 .neq t56 (kU 0)]
abbrev C5_43 := Ro [As 2 (kI 1)]
abbrev C5_44 := Sq [2] C5_43 .ret
abbrev C5_45 := Cd t57 C5_44 .skip
abbrev C5_46 := Sq [1,5,57] C5_42 C5_45
abbrev C5_47 := Bk 5 C5_46
abbrev C5_48 := Ro [Mv 49 t5,Bn 50 .add t49 (kI 1),As 5 t50]
abbrev C5_49 := Sq [1,5] C5_47 C5_48
abbrev C5_50 := Sq [1,5] C5_41 C5_49
abbrev C5_51 : ACode := .loop C5_50
abbrev C5_52 := Bk 4 C5_51
abbrev C5_53 := Sq [1,5] C5_38 C5_52
abbrev C5_54 := Ro [Fa 58 0 t1,Ld 59 none t58,Ln 60 t59,Bn 61 .eql t60 (kI 0),Mv 62 t61,Ldf 63 62 (some 4) t1,Faf 64 62 3 t1,Ldf 65 62 none t64,Faf 66 62 1 t1,Ldf 67 62 none t66,Lnf 68 62 t67,Caf 69 62 16 [t63,t65,t68],Unf 70 62 .not t69,Pk 71 t62 kT t70]
abbrev C5_55 := Ro [As 2 (kI 1)]
abbrev C5_56 := Sq [2] C5_55 .ret
abbrev C5_57 := Cd t71 C5_56 .skip
abbrev C5_58 := Sq [71] C5_54 C5_57
abbrev C5_59 := Ro [As 2 (kI 0)]
abbrev C5_60 := Sq [2] C5_59 .ret
abbrev C5_61 := Sq [] C5_58 C5_60
abbrev C5_62 := Sq [1] C5_53 C5_61
abbrev C5_63 := Sq [1] C5_37 C5_62
abbrev C5_64 := Sq [1] C5_21 C5_63
abbrev C5_65 := Sq [1] C5_5 C5_64
abbrev C5_66 := Sq [1] C5_0 C5_65
abbrev C5 := C5_66
abbrev C5r : List RV := [.t 2]
theorem C5ok : Okf Tryz.prog 5 Tryz.f5 C5 C5r := ⟨Tryz.func5, by kernel_rfl, by kernel_rfl, by kernel_rfl⟩

/-- mimesis/mimesislaw25.awake -/
abbrev C6_0 := Ro [As 0 kF]
abbrev C6_1 := Ro [Ca 8 17 [(kI 64),kS,kS],Mv 7 t8,Ex 9 0 t7,Ex 10 1 t7,As 1 t9,As 2 t10]
abbrev C6_2 := Ro [⟨(some 11),none,.e (.bsr 1 [.int .u32 0] [(0,1,(kU 2147483648))])⟩,⟨(some 12),none,.r (.bld [zi,zi,zi,z4,zi,zi] [(0,1,(kI 1)),(3,1,(kU 1))])⟩,⟨(some 13),none,.r (.bld [zi,zi,zi,z4,zi,zi] [(0,1,(kI 2)),(3,1,(kU 4))])⟩,⟨(some 14),none,.r (.bld [zi,zi,zi,z4,zi,zi] [(0,1,(kI 3)),(3,1,(kU 28)),(2,1,(kI 1))])⟩,⟨(some 15),none,.e (.bsr 3 [zi,zi,zi,z4,zi,zi,zi,zi,zi,z4,zi,zi,zi,zi,zi,z4,zi,zi] [(0,6,t12),(6,6,t13),(12,6,t14)])⟩,⟨(some 16),none,.r (.bld [.int .i64 0,.int .i64 0] [(0,1,(kI 1)),(1,1,(kI 2))])⟩,⟨(some 17),none,.e (.bsr 1 [.int .i64 0,.int .i64 0] [(0,2,t16)])⟩,⟨(some 18),none,.r (.bld [zi,z4,zi,zi,.nils] [(0,1,(kI 1)),(1,1,(kU 2147483652)),(2,1,(kI (-1))),(3,1,(kI 4)),(4,1,t17)])⟩,⟨(some 19),none,.e (.bsr 1 [zi,z4,zi,zi,.nils] [(0,5,t18)])⟩,⟨(some 20),none,.r (.bld [.nils,.nils,.nils,zi] [(0,1,t11),(1,1,t15),(2,1,t19)])⟩,⟨(some 21),none,.e (.box t20)⟩,As 3 t21]
abbrev C6_3 := Ro [Mv 22 t1,Mv 23 t3,Ca 24 12 [t22,t23,(kI 1)],As 4 t24]
abbrev C6_4 := Ro [Mv 26 t1,Mv 27 t3,Ca 28 8 [t26,t27,(kI 1)],Mv 25 t28,Ex 29 0 t25,Ex 30 1 t25,Al 5 [z4,z4,z4,z4,z4,z4,z4,z4,z4,z4,z4,z4,z4,z4,z4,z4,z4,z4,z4,z4,z4,z4,z4,z4,z4,z4,z4,z4,z4,z4,z4,z4,z4,zi,zi,zi],Sxn 36 t5 t29,As 6 t30]
abbrev C6_5 := Ro [Mv 31 t2,Bn 32 .eql t31 (kI 0),Mv 33 t32,Mvt 34 33 t4,Pk 35 t33 t34 kF,Mv 36 t35,Mvt 37 36 t6,Bnt 38 36 .eql t37 (kI 0),Pk 39 t36 t38 kF,Mv 40 t39,Fat 41 40 33 t5,Ldt 42 40 none t41,Bnt 43 40 .eql t42 (kI 1),Pk 44 t40 t43 kF,Mv 45 t44,Mvt 46 45 t1,Cat 47 45 18 [t46,(kI 1)],Bnt 48 45 .eql t47 (kU 4),Pk 49 t45 t48 kF,Mv 50 t49,Mvt 51 50 t1,Nct 52 50 t51,Fat 53 50 42 t52,Ldt 54 50 none t53,Bnt 55 50 .eql t54 (kL 1),Pk 56 t50 t55 kF,As 0 t56]
abbrev C6_6 := Sq [0] C6_5 .ret
abbrev C6_7 : ACode := .fz 5 C6_6
abbrev C6_8 : ACode := .wk 5 C6_7
abbrev C6_9 := Sq [1,2,4,5,6] C6_4 C6_8
abbrev C6_10 := Sq [1,2,3,4] C6_3 C6_9
abbrev C6_11 : ACode := .wk 3 C6_10
abbrev C6_12 := Sq [1,2,3] C6_2 C6_11
abbrev C6_13 := Sq [1,2] C6_1 C6_12
abbrev C6_14 := Sq [] C6_0 C6_13
abbrev C6 := C6_14
abbrev C6r : List RV := [.t 0]
theorem C6ok : Okf Tryz.prog 6 Tryz.f6 C6 C6r := ⟨Tryz.func6, by kernel_rfl, by kernel_rfl, by kernel_rfl⟩

/-- mimesis/mimesislaw23.Own -/
abbrev C7_0 := Ro [Br 1 t0,As 2 kP]
abbrev C7_1 := Ro [Fa 9 0 t1,Ld 10 none t9,Fa 11 3 t1,Ld 12 none t11,⟨(some 13),none,.r (.bld [.nils,.nils,.nils,zi] [(0,1,t10),(3,1,t12)])⟩,⟨(some 14),none,.e (.box t13)⟩,As 3 t14]
abbrev C7_2 := Ro [As 4 (kI 0)]
abbrev C7_3 := Ro [Mv 15 t4,Fa 16 1 t1,Ld 17 none t16,Ln 18 t17,Bn 19 .lss t15 t18]
abbrev C7_4 := Cd t19 .skip (.exit 0)
abbrev C7_5 := Sq [1,3,4,19] C7_3 C7_4
abbrev C7_6 := Dr [Mv 22 t3,Mv 23 t3,Nc 24 t23,Fa 25 1 t24,Ld 26 none t25,Fa 27 1 t1,Ld 28 none t27,Mv 29 t4,Ix 30 6 t28 t29,Ld 31 (some 6) t30,⟨(some 32),none,.e (.bsr 1 [zi,zi,zi,z4,zi,zi] [(0,6,t31)])⟩,Ap 33 6 48 t26 t32,Nc 34 t22,Fa 35 1 t34,Sxn 1 t35 t33] [[],[],[1],[2],[3],[],[5],[],[6,7],[8],[9],[4,10],[0,0,1,2,3,4,5,6,7,8,9,10,11],[12,0,1,2,3,4,5,6,7,8,9,10,11],[13,11,11,0,1,2,3,4,5,6,7,8,9,10,11]] [(0,[]),(1,[]),(2,[]),(3,[]),(4,[]),(5,[]),(6,[]),(7,[]),(8,[]),(9,[]),(10,[0,1,2,3,4]),(11,[0]),(12,[]),(13,[]),(14,[])]
abbrev C7_7 := Bk 1 C7_6
abbrev C7_8 := Ro [Mv 20 t4,Bn 21 .add t20 (kI 1),As 4 t21]
abbrev C7_9 := Sq [1,3,4] C7_7 C7_8
abbrev C7_10 := Sq [1,3,4] C7_5 C7_9
abbrev C7_11 : ACode := .loop C7_10
abbrev C7_12 := Bk 0 C7_11
abbrev C7_13 := Sq [1,3,4] C7_2 C7_12
abbrev C7_14 := Ro [As 5 (kI 0)]
abbrev C7_15 := Ro [Mv 36 t5,Fa 37 2 t1,Ld 38 none t37,Ln 39 t38,Bn 40 .lss t36 t39]
abbrev C7_16 := Cd t40 .skip (.exit 2)
abbrev C7_17 := Sq [1,3,5,40] C7_15 C7_16
abbrev C7_18 := Ro [Fa 43 2 t1,Ld 44 none t43,Mv 45 t5,Ix 46 5 t44 t45,Ld 47 (some 5) t46,Al 6 [zi,z4,zi,zi,.nils],Sxn 5 t6 t47]
abbrev C7_19 := Ro [Fa 48 0 t6,Ld 49 none t48,Fa 50 1 t6,Ld 51 none t50,Fa 52 2 t6,Ld 53 none t52,Fa 54 3 t6,Ld 55 none t54,⟨(some 56),none,.r (.bld [zi,z4,zi,zi,.nils] [(0,1,t49),(1,1,t51),(2,1,t53),(3,1,t55)])⟩,Al 7 [zi,z4,zi,zi,.nils],Sxn 5 t7 t56]
abbrev C7_20 := Ro [As 8 (kI 0)]
abbrev C7_21 := Ro [Mv 57 t8,Fa 58 4 t6,Ld 59 none t58,Ln 60 t59,Bn 61 .lss t57 t60]
abbrev C7_22 := Cd t61 .skip (.exit 4)
abbrev C7_23 := Sq [1,3,5,6,7,8,61] C7_21 C7_22
abbrev C7_24 := Dr [Fa 64 4 t7,Ld 65 none t64,Fa 66 4 t6,Ld 67 none t66,Mv 68 t8,Ix 69 2 t67 t68,Ld 70 (some 2) t69,⟨(some 71),none,.e (.bsr 1 [.int .i64 0,.int .i64 0] [(0,2,t70)])⟩,Ap 72 2 16 t65 t71,Fa 73 4 t7,Sxn 1 t73 t72] [[],[0],[],[2],[],[3,4],[5],[6],[1,7],[0,1,2,3,4,5,6,7,8],[9,8,8,0,1,2,3,4,5,6,7,8]] [(0,[]),(1,[]),(2,[]),(3,[]),(4,[]),(5,[]),(6,[]),(7,[0,1]),(8,[]),(9,[]),(10,[])]
abbrev C7_25 := Bk 5 C7_24
abbrev C7_26 := Ro [Mv 62 t8,Bn 63 .add t62 (kI 1),As 8 t63]
abbrev C7_27 := Sq [1,3,5,6,7,8] C7_25 C7_26
abbrev C7_28 := Sq [1,3,5,6,7,8] C7_23 C7_27
abbrev C7_29 : ACode := .loop C7_28
abbrev C7_30 := Bk 4 C7_29
abbrev C7_31 := Sq [1,3,5,6,7,8] C7_20 C7_30
abbrev C7_32 := Dr [Mv 74 t3,Mv 75 t3,Nc 76 t75,Fa 77 2 t76,Ld 78 none t77,Ld 79 (some 5) t7,⟨(some 80),none,.e (.bsr 1 [zi,z4,zi,zi,.nils] [(0,5,t79)])⟩,Ap 81 5 56 t78 t80,Nc 82 t74,Fa 83 2 t82,Sxn 1 t83 t81] [[],[],[1],[2],[3],[],[5],[4,6],[0,0,1,2,3,4,5,6,7],[8,0,1,2,3,4,5,6,7],[9,7,7,0,1,2,3,4,5,6,7]] [(0,[]),(1,[]),(2,[]),(3,[]),(4,[]),(5,[]),(6,[0,1,2,3,4]),(7,[0]),(8,[]),(9,[]),(10,[])]
abbrev C7_33 : ACode := .wk 7 C7_32
abbrev C7_34 := Sq [1,3,5,7] C7_31 C7_33
abbrev C7_35 := Sq [1,3,5,6,7] C7_19 C7_34
abbrev C7_36 : ACode := .fz 6 C7_35
abbrev C7_37 := Sq [1,3,5,6] C7_18 C7_36
abbrev C7_38 := Bk 3 C7_37
abbrev C7_39 := Ro [Mv 41 t5,Bn 42 .add t41 (kI 1),As 5 t42]
abbrev C7_40 := Sq [1,3,5] C7_38 C7_39
abbrev C7_41 := Sq [1,3,5] C7_17 C7_40
abbrev C7_42 : ACode := .loop C7_41
abbrev C7_43 := Bk 2 C7_42
abbrev C7_44 := Sq [1,3,5] C7_14 C7_43
abbrev C7_45 := Ro [Mv 84 t3,As 2 t84]
abbrev C7_46 := Sq [2] C7_45 .ret
abbrev C7_47 : ACode := .wk 3 C7_46
abbrev C7_48 := Sq [3] C7_44 C7_47
abbrev C7_49 : ACode := .wk 3 C7_48
abbrev C7_50 := Sq [1,3] C7_13 C7_49
abbrev C7_51 := Sq [1,3] C7_1 C7_50
abbrev C7_52 := Sq [1] C7_0 C7_51
abbrev C7 := C7_52
abbrev C7r : List RV := [.t 2]
theorem C7ok : Okf Tryz.prog 7 Tryz.f7 C7 C7r := ⟨Tryz.func7, by kernel_rfl, by kernel_rfl, by kernel_rfl⟩

/-- mimesis/apply.Do -/
abbrev C8_0 := Ro [Al 6 [z4,z4,z4,z4,z4,z4,z4,z4,z4,z4,z4,z4,z4,z4,z4,z4,z4,z4,z4,z4,z4,z4,z4,z4,z4,z4,z4,z4,z4,z4,z4,z4,z4,zi,zi,zi],As 7 (kI 0)]
abbrev C8_1 := Ro [Mv 11 t0,Mv 12 t1,Mv 13 t2,Ca 14 19 [t11,t12,t13],As 8 t14]
abbrev C8_2 := Ro [Mv 15 t8,Bn 16 .neq t15 (kI 0)]
abbrev C8_3 := Ro [⟨(some 17),none,.r (.bld [z4,z4,z4,z4,z4,z4,z4,z4,z4,z4,z4,z4,z4,z4,z4,z4,z4,z4,z4,z4,z4,z4,z4,z4,z4,z4,z4,z4,z4,z4,z4,z4,z4,zi,zi,zi] [])⟩,Mv 18 t8,Sxn 36 t6 t17,As 7 t18]
abbrev C8_4 := Sq [6,7] C8_3 .ret
abbrev C8_5 := Cd t16 C8_4 .skip
abbrev C8_6 := Sq [0,1,6,8,16] C8_2 C8_5
abbrev C8_7 := Sq [0,1,6,8] C8_1 C8_6
abbrev C8_8 : ACode := .dregt [Mv 20 t1,Mv 21 t0,Nc 22 t21,Fa 23 1 t22,Ld 24 (some 32) t23,Mv 25 t0,Ca 26 10 [t25],Ca 27 21 [t26],Ca 28 20 [t20,t24,t27],Mv 19 t28,Ex 29 0 t19,Ex 30 1 t19,Al 9 [z4,z4,z4,z4,z4,z4,z4,z4,z4,z4,z4,z4,z4,z4,z4,z4,z4,z4,z4,z4,z4,z4,z4,z4,z4,z4,z4,z4,z4,z4,z4,z4,z4,zi,zi,zi],Sxn 36 t9 t29,As 10 t30] [[],[],[1],[2],[3],[],[5],[6,6],[0,4,7,7],[8],[9],[9],[],[12,10,8,0,1,2,3,4,5,6,7,8,9,10,12],[11,13,0,1,2,3,4,5,6,7,8,9,10,11,12,13]] (.r 0 (.r 1 (.r 2 (.r 3 (.r 4 (.r 5 (.e 6 [0,1,2,3,4] (.e 7 [0,1,2,3,4] (.e 8 [] (.r 9 (.r 10 (.r 11 (.e 12 [0,1,2,3,4,5,9,10,11] (.e 13 [11] (.e 14 [] .nil .nil) .nil) .nil)))) (.e 12 [0,1,2,3,4,5] (.e 8 [] (.r 9 (.r 10 (.r 11 (.e 13 [11] (.e 14 [] .nil .nil) .nil)))) .nil) .nil)) (.e 12 [0,1,2,3,4,5] (.e 7 [0,1,2,3,4] (.e 8 [] (.r 9 (.r 10 (.r 11 (.e 13 [11] (.e 14 [] .nil .nil) .nil)))) .nil) .nil) .nil)) (.e 12 [0,1,2,3,4,5] (.e 6 [0,1,2,3,4] (.e 7 [0,1,2,3,4] (.e 8 [] (.r 9 (.r 10 (.r 11 (.e 13 [11] (.e 14 [] .nil .nil) .nil)))) .nil) .nil) .nil) .nil))))))))
abbrev C8_9 := Ro [Mv 31 t10,Bn 32 .neq t31 (kI 0)]
abbrev C8_10 := Ro [⟨(some 33),none,.r (.bld [z4,z4,z4,z4,z4,z4,z4,z4,z4,z4,z4,z4,z4,z4,z4,z4,z4,z4,z4,z4,z4,z4,z4,z4,z4,z4,z4,z4,z4,z4,z4,z4,z4,zi,zi,zi] [])⟩,Mv 34 t10,Sxn 36 t6 t33,As 7 t34]
abbrev C8_11 := Sq [6,7] C8_10 .ret
abbrev C8_12 := Cd t32 C8_11 .skip
abbrev C8_13 := Sq [0,6,9,10,32] C8_9 C8_12
abbrev C8_14 := Dr [Mv 35 t0,Nc 36 t35,Fa 37 1 t36,⟨(some 38),none,.r (.sla 32 1 t37 (some (kI 1)) none)⟩,Fa 39 0 t9,⟨(some 40),none,.r (.sla 32 1 t39 (some (kI 1)) none)⟩,⟨(some 41),none,.e (.cpy 1 t38 t40)⟩] [[],[0],[1],[2],[],[4],[3,5]] [(0,[]),(1,[]),(2,[]),(3,[]),(4,[]),(5,[]),(6,[])]
abbrev C8_15 := Ro [Mv 42 t0,Fa 43 32 t9,Ld 44 none t43,Nc 45 t42,Fa 46 0 t45,Sxn 1 t46 t44]
abbrev C8_16 := Dr [Mv 47 t0,Nc 48 t47,Fa 49 42 t48,Ld 50 none t49,Fa 51 33 t9,Ld 52 none t51,Cv 53 .u64 t52,Bn 54 .add t50 t53,Nc 55 t47,Fa 56 42 t55,Sxn 1 t56 t54] [[],[0],[1],[2],[],[4],[5],[3,6],[0,0,1,2,3,4,5,6,7],[8,0,1,2,3,4,5,6,7],[9,7,0,1,2,3,4,5,6,7]] [(0,[]),(1,[]),(2,[]),(3,[]),(4,[]),(5,[]),(6,[]),(7,[]),(8,[]),(9,[]),(10,[])]
abbrev C8_17 := Dr [Mv 57 t0,Nc 58 t57,Fa 59 43 t58,Ld 60 none t59,Fa 61 33 t9,Ld 62 none t61,Cv 63 .u64 t62,Bn 64 .add t60 t63,Nc 65 t57,Fa 66 43 t65,Sxn 1 t66 t64] [[],[0],[1],[2],[],[4],[5],[3,6],[0,0,1,2,3,4,5,6,7],[8,0,1,2,3,4,5,6,7],[9,7,0,1,2,3,4,5,6,7]] [(0,[]),(1,[]),(2,[]),(3,[]),(4,[]),(5,[]),(6,[]),(7,[]),(8,[]),(9,[]),(10,[])]
abbrev C8_18 := Ro [Ld 67 (some 36) t9,Sxn 36 t6 t67,As 7 (kI 0)]
abbrev C8_19 := Sq [6,7] C8_18 .ret
abbrev C8_20 := Sq [6,9] C8_17 C8_19
abbrev C8_21 := Sq [0,6,9] C8_16 C8_20
abbrev C8_22 := Sq [0,6,9] C8_15 C8_21
abbrev C8_23 := Sq [0,6,9] C8_14 C8_22
abbrev C8_24 := Sq [0,6,9] C8_13 C8_23
abbrev C8_25 := Sq [0,6,9,10] C8_8 C8_24
abbrev C8_26 := Sq [0,1,6] C8_7 C8_25
abbrev C8_27 := Sq [0,1,2,6] C8_0 C8_26
abbrev C8 := C8_27
abbrev C8r : List RV := [.c 6 (some 36),.t 7]
theorem C8ok : Okf Tryz.prog 8 Tryz.f8 C8 C8r := ⟨Tryz.func8, by kernel_rfl, by kernel_rfl, by kernel_rfl⟩

/-- mimesis/mimesislaw18.Begin -/
abbrev C9_0 := Ro [Br 1 t0,As 2 kP]
abbrev C9_1 := Dr [Fa 7 0 t1,Ld 8 none t7,Fa 9 1 t1,Ld 10 none t9,Ca 11 22 [t10],Fa 12 2 t1,Ld 13 none t12,Ca 14 17 [t8,t11,t13],Mv 6 t14,Ex 15 0 t6,Ex 16 1 t6,As 3 t15,As 4 t16] [[],[0],[],[2],[3],[],[5],[1,4,6,4],[7],[8],[8],[9,7,0,1,2,3,4,5,6,7,8,9],[10,11,0,1,2,3,4,5,6,7,8,9,10,11]] [(0,[]),(1,[]),(2,[]),(3,[]),(5,[]),(6,[]),(4,[0,1,5,6]),(7,[]),(8,[]),(9,[]),(10,[]),(11,[10]),(12,[])]
abbrev C9_2 := Ro [Mv 17 t4,Bn 18 .neq t17 (kI 0),Mv 19 t18,Mvf 20 19 t3,Epf 21 19 false t20 kP,Pk 22 t19 kT t21,Mv 23 t22,Mvf 24 23 t3,Caf 25 23 10 [t24],Caf 26 23 23 [t25],Epf 27 23 false t26 kP,Pk 28 t23 kT t27]
abbrev C9_3 := Ro [As 2 kP]
abbrev C9_4 := Sq [2] C9_3 .ret
abbrev C9_5 := Cd t28 C9_4 .skip
abbrev C9_6 := Sq [1,3,28] C9_2 C9_5
abbrev C9_7 := Ro [Mv 29 t3,Fa 30 3 t1,Ld 31 none t30,Nc 32 t29,Fa 33 0 t32,Sxn 1 t33 t31]
abbrev C9_8 := Ro [Mv 34 t3,Fa 35 4 t1,Ld 36 (some 32) t35,Nc 37 t34,Fa 38 1 t37,Sxn 32 t38 t36]
abbrev C9_9 := Ro [Mv 39 t3,Fa 40 36 t1,Ld 41 (some 7) t40,Fa 42 43 t1,Ld 43 none t42,Fa 44 44 t1,Ld 45 none t44,⟨(some 46),none,.r (.bld [z4,z4,z4,z4,z4,z4,z4,z8,z8] [(0,7,t41),(7,1,t43),(8,1,t45)])⟩,Nc 47 t39,Fa 48 33 t47,Sxn 9 t48 t46]
abbrev C9_10 := Ro [Mv 49 t3,Ca 50 10 [t49],Ca 51 23 [t50],As 5 t51]
abbrev C9_11 := Ro [Mv 52 t5,Fa 53 45 t1,Fa 54 0 t53,Ld 55 none t54,Nc 56 t52,Fa 57 0 t56,Sxn 1 t57 t55]
abbrev C9_12 := Ro [Mv 58 t5,Fa 59 45 t1,Fa 60 1 t59,Ld 61 none t60,Nc 62 t58,Fa 63 1 t62,Sxn 1 t63 t61]
abbrev C9_13 := Ro [Mv 64 t5,Fa 65 45 t1,Fa 66 2 t65,Ld 67 none t66,Nc 68 t64,Fa 69 2 t68,Sxn 1 t69 t67]
abbrev C9_14 := Ro [Mv 70 t3,Fa 71 48 t1,Ld 72 none t71,Nc 73 t70,Fa 74 42 t73,Sxn 1 t74 t72]
abbrev C9_15 := Ro [Mv 75 t3,Fa 76 49 t1,Ld 77 none t76,Nc 78 t75,Fa 79 43 t78,Sxn 1 t79 t77]
abbrev C9_16 := Ro [Mv 80 t3,As 2 t80]
abbrev C9_17 := Sq [2] C9_16 .ret
abbrev C9_18 := Sq [3] C9_15 C9_17
abbrev C9_19 := Sq [1,3] C9_14 C9_18
abbrev C9_20 := Sq [1,3] C9_13 C9_19
abbrev C9_21 := Sq [1,3,5] C9_12 C9_20
abbrev C9_22 := Sq [1,3,5] C9_11 C9_21
abbrev C9_23 := Sq [1,3,5] C9_10 C9_22
abbrev C9_24 := Sq [1,3] C9_9 C9_23
abbrev C9_25 := Sq [1,3] C9_8 C9_24
abbrev C9_26 := Sq [1,3] C9_7 C9_25
abbrev C9_27 := Sq [1,3] C9_6 C9_26
abbrev C9_28 := Sq [1,3,4] C9_1 C9_27
abbrev C9_29 := Sq [1] C9_0 C9_28
abbrev C9 := C9_29
abbrev C9r : List RV := [.t 2]
theorem C9ok : Okf Tryz.prog 9 Tryz.f9 C9 C9r := ⟨Tryz.func9, by kernel_rfl, by kernel_rfl, by kernel_rfl⟩

/-- (*mimesis/cpu.Cpu).Bus -/
abbrev C10_0 := Ro [As 2 kP]
abbrev C10_1 := Ro [Mv 3 t0,Ep 4 false t3 kP]
abbrev C10_2 := Ro [As 2 kP]
abbrev C10_3 := Sq [2] C10_2 .ret
abbrev C10_4 := Cd t4 C10_3 .skip
abbrev C10_5 := Sq [0,4] C10_1 C10_4
abbrev C10_6 := Ro [Mv 5 t0,Nc 6 t5,Fa 7 44 t6,Ld 8 none t7,As 2 t8]
abbrev C10_7 := Sq [2] C10_6 .ret
abbrev C10_8 := Sq [0] C10_5 C10_7
abbrev C10_9 := Sq [0] C10_0 C10_8
abbrev C10 := C10_9
abbrev C10r : List RV := [.t 2]
theorem C10ok : Okf Tryz.prog 10 Tryz.f10 C10 C10r := ⟨Tryz.func10, by kernel_rfl, by kernel_rfl, by kernel_rfl⟩

/-- (*mimesis/bus.Bus).Store -/
abbrev C11_0 := Ro [As 10 kF,As 11 (kI 0)]
abbrev C11_1 := Ro [Mv 13 t0,Mv 14 t1,Mv 15 t2,Ca 16 24 [t13,t14,t15],As 12 t16]
abbrev C11_2 := Ro [Mv 17 t12,Bn 18 .neq t17 (kI 0)]
abbrev C11_3 := Ro [Mv 19 t12,As 10 kF,As 11 t19]
abbrev C11_4 := Sq [10,11] C11_3 .ret
abbrev C11_5 := Cd t18 C11_4 .skip
abbrev C11_6 := Sq [0,1,2,3,4,12,18] C11_2 C11_5
abbrev C11_7 := Sq [0,1,2,3,4,12] C11_1 C11_6
abbrev C11_8 := Ro [Mv 20 t0,Mv 21 t1,Mv 22 t2,Ca 23 25 [t20,t21,t22],Bn 24 .eql t23 (kI 1)]
abbrev C11_9 := Ro [Mv 25 t0,Nc 26 t25,Fa 27 0 t26,Ld 28 none t27,Mv 29 t1,Mv 30 t2,Mv 31 t3,Ca 32 26 [t28,t29,t30,t31],Ex 33 0 t32,Ex 34 1 t32,As 10 t33,As 11 t34]
abbrev C11_10 := Sq [10,11] C11_9 .ret
abbrev C11_11 := Cd t24 C11_10 .skip
abbrev C11_12 := Sq [0,1,2,3,4,24] C11_8 C11_11
abbrev C11_13 := Ro [Mv 35 t1,Ca 36 27 [t35]]
abbrev C11_14 := Ro [Bn 38 .eql t36 (kI 0),As 37 t38]
abbrev C11_15 := Ro [Mv 39 t0,Mv 40 t0,Mv 41 t3,Nc 42 t39,Fa 43 3 t42,Sxn 1 t43 kT,Nc 44 t40,Fa 45 4 t44,Sxn 1 t45 t41]
abbrev C11_16 := Ro [As 10 kF,As 11 (kI 0)]
abbrev C11_17 := Sq [10,11] C11_16 .ret
abbrev C11_18 := Sq [] C11_15 C11_17
abbrev C11_19 := Ro [Bn 47 .eql t36 (kI 1),As 46 t47]
abbrev C11_20 := Ro [Mv 48 t0,Nc 49 t48,Fa 50 1 t49,Ld 51 none t50,Mv 52 t1,Bn 53 .sub t52 (kU 268435456),Cv 54 .i64 t53,Mv 55 t3,Ca 56 28 [t51,t54,t55],As 10 kF,As 11 t56]
abbrev C11_21 := Sq [10,11] C11_20 .ret
abbrev C11_22 := Cd t46 C11_21 .skip
abbrev C11_23 := Sq [0,1,3,4,46] C11_19 C11_22
abbrev C11_24 := Cd t37 C11_18 C11_23
abbrev C11_25 := Sq [0,1,3,4,36,37] C11_14 C11_24
abbrev C11_26 := Bk 0 C11_25
abbrev C11_27 := Sq [0,1,3,4,36] C11_13 C11_26
abbrev C11_28 := Ro [Mv 57 t0,Nc 58 t57,Fa 59 2 t58,Ld 60 none t59,Mv 61 t1,Mv 62 t3,Mv 63 t4,Ca 64 29 [t60,t61,t62,t63],As 10 kF,As 11 t64]
abbrev C11_29 := Sq [10,11] C11_28 .ret
abbrev C11_30 := Sq [0,1,3,4] C11_27 C11_29
abbrev C11_31 := Sq [0,1,3,4] C11_12 C11_30
abbrev C11_32 := Sq [0,1,2,3,4] C11_7 C11_31
abbrev C11_33 := Sq [0,1,2,3,4] C11_0 C11_32
abbrev C11 := C11_33
abbrev C11r : List RV := [.t 10,.t 11]
theorem C11ok : Okf Tryz.prog 11 Tryz.f11 C11 C11r := ⟨Tryz.func11, by kernel_rfl, by kernel_rfl, by kernel_rfl⟩

/-- mimesis/apply.May -/
abbrev C12_0 := Ro [As 6 kF]
abbrev C12_1 := Ro [Mv 7 t0,Mv 8 t1,Mv 9 t2,Ca 10 19 [t7,t8,t9],Bn 11 .eql t10 (kI 0),As 6 t11]
abbrev C12_2 := Sq [6] C12_1 .ret
abbrev C12_3 := Sq [0,1,2] C12_0 C12_2
abbrev C12 := C12_3
abbrev C12r : List RV := [.t 6]
theorem C12ok : Okf Tryz.prog 12 Tryz.f12 C12 C12r := ⟨Tryz.func12, by kernel_rfl, by kernel_rfl, by kernel_rfl⟩

/-- mimesis/mimesisref18.Right -/
abbrev C13_0 := Ro [Br 1 t0,As 2 kF]
abbrev C13_1 := Ro [Fa 3 0 t1,Ld 4 none t3,Fa 5 1 t1,Ld 6 none t5,Fa 7 2 t1,Ld 8 none t7,Ca 9 30 [t4,t6,t8],Bn 10 .eql t9 (kI 0),Mv 11 t10,Fat 12 11 3 t1,Ldt 13 11 none t12,Bnt 14 11 .rem t13 (kU 4),Bnt 15 11 .eql t14 (kU 0),Pk 16 t11 t15 kF,Mv 17 t16,Fat 18 17 4 t1,⟨(some 19),(some (17,true)),.r (.ixa 32 1 t18 (kI 0))⟩,Ldt 20 17 none t19,Bnt 21 17 .eql t20 (kU 0),Pk 22 t17 t21 kF,Mv 23 t22,Fat 24 23 36 t1,Ldt 25 23 (some 7) t24,Cat 26 23 31 [t25],Pk 27 t23 t26 kF,As 2 t27]
abbrev C13_2 := Sq [2] C13_1 .ret
abbrev C13_3 := Sq [1] C13_0 C13_2
abbrev C13 := C13_3
abbrev C13r : List RV := [.t 2]
theorem C13ok : Okf Tryz.prog 13 Tryz.f13 C13 C13r := ⟨Tryz.func13, by kernel_rfl, by kernel_rfl, by kernel_rfl⟩

/-- mimesis/mimesisref23.op -/
abbrev C14_0 := Ro [Br 2 t0,As 4 kF]
abbrev C14_1 := Ro [Fa 8 1 t2,Ld 9 none t8,Mv 10 t1,Ix 11 6 t9 t10,Ld 12 (some 6) t11,Al 5 [zi,zi,zi,z4,zi,zi],Sxn 6 t5 t12]
abbrev C14_2 := Ro [Fa 13 3 t5,Ld 14 none t13,Cv 15 .i64 t14,As 6 t15]
abbrev C14_3 := Ro [Fa 16 4 t5,Ld 17 none t16,Bn 18 .eql t17 (kI 0),Mv 19 t18,Fat 20 19 5 t5,Ldt 21 19 none t20,Bnt 22 19 .eql t21 (kI 0),Pk 23 t19 t22 kF,As 7 t23]
abbrev C14_4 := Ro [Fa 24 0 t5,Ld 25 none t24]
abbrev C14_5 := Ro [Bn 27 .eql t25 (kI 1),As 26 t27]
abbrev C14_6 := Ro [Mv 28 t6,Bn 29 .geq t28 (kI 1),Mv 30 t29,Mvt 31 30 t6,Bnt 32 30 .leq t31 (kI 31),Pk 33 t30 t32 kF,Mv 34 t33,Mvt 35 34 t7,Pk 36 t34 t35 kF,Mv 37 t36,Fat 38 37 1 t5,Ldt 39 37 none t38,Bnt 40 37 .eql t39 (kI 0),Pk 41 t37 t40 kF,Mv 42 t41,Fat 43 42 2 t5,Ldt 44 42 none t43,Bnt 45 42 .eql t44 (kI 0),Pk 46 t42 t45 kF,As 4 t46]
abbrev C14_7 := Sq [4] C14_6 .ret
abbrev C14_8 := Ro [Bn 48 .eql t25 (kI 2),As 47 t48]
abbrev C14_9 := Ro [Mv 49 t7,Mv 50 t49,Fat 51 50 1 t5,Ldt 52 50 none t51,Bnt 53 50 .eql t52 (kI 0),Pk 54 t50 t53 kF,Mv 55 t54,Fat 56 55 2 t5,Ldt 57 55 none t56,Bnt 58 55 .eql t57 (kI 0),Pk 59 t55 t58 kF,As 4 t59]
abbrev C14_10 := Sq [4] C14_9 .ret
abbrev C14_11 := Ro [Bn 61 .eql t25 (kI 3),As 60 t61]
abbrev C14_12 := Ro [Mv 62 t6,Ca 63 32 [t62],Mv 64 t63,Mvt 65 64 t7,Pk 66 t64 t65 kF,Mv 67 t66,Ldt 68 67 (some 4) t2,Fat 69 67 1 t5,Ldt 70 67 none t69,Mvt 71 67 t1,Cat 72 67 33 [t68,t70,t71],Pk 73 t67 t72 kF,Mv 74 t73,Ldt 75 74 (some 4) t2,Fat 76 74 2 t5,Ldt 77 74 none t76,Mvt 78 74 t1,Cat 79 74 33 [t75,t77,t78],Pk 80 t74 t79 kF,As 4 t80]
abbrev C14_13 := Sq [4] C14_12 .ret
abbrev C14_14 := Ro [Bn 82 .eql t25 (kI 4),As 81 t82]
abbrev C14_15 := Ro [Mv 83 t6,Ca 84 34 [t83],Bn 85 .gtr t84 (kI 0),Mv 86 t85,Fat 87 86 5 t5,Ldt 88 86 none t87,Bnt 89 86 .eql t88 (kI 0),Pk 90 t86 t89 kF,Mv 91 t90,Fat 92 91 2 t5,Ldt 93 91 none t92,Bnt 94 91 .eql t93 (kI 0),Pk 95 t91 t94 kF,Mv 96 t95,Ldt 97 96 (some 4) t2,Fat 98 96 1 t5,Ldt 99 96 none t98,Mvt 100 96 t1,Cat 101 96 33 [t97,t99,t100],Pk 102 t96 t101 kF,Mv 103 t102,Ldt 104 103 (some 4) t2,Fat 105 103 4 t5,Ldt 106 103 none t105,Mvt 107 103 t1,Cat 108 103 16 [t104,t106,t107],Pk 109 t103 t108 kF,As 4 t109]
abbrev C14_16 := Sq [4] C14_15 .ret
abbrev C14_17 := Ro [Bn 111 .eql t25 (kI 5),As 110 t111]
abbrev C14_18 := Ro [Mv 112 t6,Ca 113 35 [t112],Bn 114 .gtr t113 (kI 0),Mv 115 t114,Ldt 116 115 (some 4) t2,Fat 117 115 1 t5,Ldt 118 115 none t117,Mvt 119 115 t1,Cat 120 115 33 [t116,t118,t119],Pk 121 t115 t120 kF,Mv 122 t121,Ldt 123 122 (some 4) t2,Fat 124 122 2 t5,Ldt 125 122 none t124,Mvt 126 122 t1,Cat 127 122 33 [t123,t125,t126],Pk 128 t122 t127 kF,Mv 129 t128,Ldt 130 129 (some 4) t2,Fat 131 129 4 t5,Ldt 132 129 none t131,Mvt 133 129 t1,Cat 134 129 16 [t130,t132,t133],Pk 135 t129 t134 kF,Mv 136 t135,Ldt 137 136 (some 4) t2,Fat 138 136 5 t5,Ldt 139 136 none t138,Mvt 140 136 t1,Cat 141 136 16 [t137,t139,t140],Pk 142 t136 t141 kF,As 4 t142]
abbrev C14_19 := Sq [4] C14_18 .ret
abbrev C14_20 := Ro [Bn 144 .eql t25 (kI 6),As 143 t144]
abbrev C14_21 := Ro [Mv 145 t6,Bn 146 .geq t145 (kI 5),Mv 147 t146,Mvt 148 147 t6,Bnt 149 147 .leq t148 (kI 10),Pk 150 t147 t149 kF,Mv 151 t150,Fat 152 151 5 t5,Ldt 153 151 none t152,Bnt 154 151 .eql t153 (kI 0),Pk 155 t151 t154 kF,Mv 156 t155,Ldt 157 156 (some 4) t2,Fat 158 156 1 t5,Ldt 159 156 none t158,Mvt 160 156 t1,Cat 161 156 33 [t157,t159,t160],Pk 162 t156 t161 kF,Mv 163 t162,Ldt 164 163 (some 4) t2,Fat 165 163 2 t5,Ldt 166 163 none t165,Mvt 167 163 t1,Cat 168 163 33 [t164,t166,t167],Pk 169 t163 t168 kF,Mv 170 t169,Ldt 171 170 (some 4) t2,Fat 172 170 4 t5,Ldt 173 170 none t172,Mvt 174 170 t1,Cat 175 170 16 [t171,t173,t174],Pk 176 t170 t175 kF,As 4 t176]
abbrev C14_22 := Sq [4] C14_21 .ret
abbrev C14_23 := Cd t143 C14_22 .skip
abbrev C14_24 := Sq [1,2,5,6,143] C14_20 C14_23
abbrev C14_25 := Cd t110 C14_19 C14_24
abbrev C14_26 := Sq [1,2,5,6,25,110] C14_17 C14_25
abbrev C14_27 := Cd t81 C14_16 C14_26
abbrev C14_28 := Sq [1,2,5,6,25,81] C14_14 C14_27
abbrev C14_29 := Cd t60 C14_13 C14_28
abbrev C14_30 := Sq [1,2,5,6,7,25,60] C14_11 C14_29
abbrev C14_31 := Cd t47 C14_10 C14_30
abbrev C14_32 := Sq [1,2,5,6,7,25,47] C14_8 C14_31
abbrev C14_33 := Cd t26 C14_7 C14_32
abbrev C14_34 := Sq [1,2,5,6,7,25,26] C14_5 C14_33
abbrev C14_35 := Bk 0 C14_34
abbrev C14_36 := Sq [1,2,5,6,7,25] C14_4 C14_35
abbrev C14_37 := Ro [As 4 kF]
abbrev C14_38 := Sq [4] C14_37 .ret
abbrev C14_39 := Sq [] C14_36 C14_38
abbrev C14_40 := Sq [1,2,5,6,7] C14_3 C14_39
abbrev C14_41 := Sq [1,2,5,6] C14_2 C14_40
abbrev C14_42 : ACode := .fz 5 C14_41
abbrev C14_43 := Sq [1,2,5] C14_1 C14_42
abbrev C14_44 := Sq [1,2] C14_0 C14_43
abbrev C14 := C14_44
abbrev C14r : List RV := [.t 4]
theorem C14ok : Okf Tryz.prog 14 Tryz.f14 C14 C14r := ⟨Tryz.func14, by kernel_rfl, by kernel_rfl, by kernel_rfl⟩

/-- mimesis/mimesisref23.leaves -/
abbrev C15_0 := Ro [Br 2 t0,As 4 kF]
abbrev C15_1 := Ro [Fa 7 2 t2,Ld 8 none t7,Mv 9 t1,Ix 10 5 t8 t9,Ld 11 (some 5) t10,Al 5 [zi,z4,zi,zi,.nils],Sxn 5 t5 t11]
abbrev C15_2 := Ro [Ld 12 (some 4) t2,Mv 13 t1,Fa 14 1 t2,Ld 15 none t14,Ln 16 t15,Ca 17 16 [t12,t13,t16],Un 18 .not t17,Mv 19 t18,Faf 20 19 0 t5,Ldf 21 19 none t20,Bnf 22 19 .lss t21 (kI 0),Pk 23 t19 kT t22,Mv 24 t23,Faf 25 24 0 t5,Ldf 26 24 none t25,Faf 27 24 0 t2,Ldf 28 24 none t27,Lnf 29 24 t28,Bnf 30 24 .gtr t26 t29,Pk 31 t24 kT t30,Mv 32 t31,Faf 33 32 1 t5,Ldf 34 32 none t33,Bnf 35 32 .rem t34 (kU 4),Bnf 36 32 .neq t35 (kU 0),Pk 37 t32 kT t36,Mv 38 t37,Faf 39 38 3 t5,Ldf 40 38 none t39,Bnf 41 38 .lss t40 (kI 1),Pk 42 t38 kT t41,Mv 43 t42,Faf 44 43 3 t5,Ldf 45 43 none t44,Bnf 46 43 .gtr t45 (kI 4),Pk 47 t43 kT t46]
abbrev C15_3 := Ro [As 4 kF]
abbrev C15_4 := Sq [4] C15_3 .ret
abbrev C15_5 := Cd t47 C15_4 .skip
abbrev C15_6 := Sq [5,47] C15_2 C15_5
abbrev C15_7 := Ro [As 6 (kI 0)]
abbrev C15_8 := Ro [Mv 48 t6,Fa 49 4 t5,Ld 50 none t49,Ln 51 t50,Bn 52 .lss t48 t51]
abbrev C15_9 := Cd t52 .skip (.exit 0)
abbrev C15_10 := Sq [5,6,52] C15_8 C15_9
abbrev C15_11 := Dr [Fa 55 4 t5,Ld 56 none t55,Mv 57 t6,Ix 58 2 t56 t57,Fa 59 0 t58,Ld 60 none t59,Bn 61 .lss t60 (kI 1),Mv 62 t61,Faf 63 62 4 t5,Ldf 64 62 none t63,Mvf 65 62 t6,Ixf 66 62 2 t64 t65,Faf 67 62 0 t66,Ldf 68 62 none t67,Bnf 69 62 .gtr t68 (kI 31),Pk 70 t62 kT t69,Mv 71 t70,Mvf 72 71 t6,Bnf 73 71 .gtr t72 (kI 0),Mvf 74 71 t73,Fat 75 74 4 t5,Ldt 76 74 none t75,Mvt 77 74 t6,Ixt 78 74 2 t76 t77,Fat 79 74 0 t78,Ldt 80 74 none t79,Fat 81 74 4 t5,Ldt 82 74 none t81,Mvt 83 74 t6,Bnt 84 74 .sub t83 (kI 1),Ixt 85 74 2 t82 t84,Fat 86 74 0 t85,Ldt 87 74 none t86,Bnt 88 74 .leq t80 t87,Pkf 89 71 t74 t88 kF,Pk 90 t71 kT t89] [[],[0],[],[1,2],[3],[4],[5],[6],[7],[8,7],[7],[9,10,7],[11,7],[12,7],[13,7],[7,14],[15,7],[16],[17,16],[18,16,16],[19],[20,19],[19],[21,22,19],[23,19],[24,19],[19],[26,19],[19],[28,19],[27,29,19],[30,19],[31,19],[25,32,19],[19,33,16],[16,34]] [(0,[]),(1,[]),(2,[]),(3,[]),(4,[]),(5,[]),(6,[]),(7,[]),(8,[]),(9,[]),(10,[]),(11,[]),(12,[]),(13,[]),(14,[]),(15,[]),(16,[]),(17,[]),(18,[]),(19,[]),(20,[]),(21,[]),(22,[]),(23,[]),(24,[]),(25,[]),(26,[]),(27,[]),(28,[]),(29,[]),(30,[]),(31,[]),(32,[]),(33,[]),(34,[]),(35,[])]
abbrev C15_12 := Ro [As 4 kF]
abbrev C15_13 := Sq [4] C15_12 .ret
abbrev C15_14 := Cd t90 C15_13 .skip
abbrev C15_15 := Sq [5,6,90] C15_11 C15_14
abbrev C15_16 := Bk 1 C15_15
abbrev C15_17 := Ro [Mv 53 t6,Bn 54 .add t53 (kI 1),As 6 t54]
abbrev C15_18 := Sq [5,6] C15_16 C15_17
abbrev C15_19 := Sq [5,6] C15_10 C15_18
abbrev C15_20 : ACode := .loop C15_19
abbrev C15_21 := Bk 0 C15_20
abbrev C15_22 := Sq [5,6] C15_7 C15_21
abbrev C15_23 := Ro [As 4 kT]
abbrev C15_24 := Sq [4] C15_23 .ret
abbrev C15_25 := Sq [] C15_22 C15_24
abbrev C15_26 := Sq [5] C15_6 C15_25
abbrev C15_27 : ACode := .fz 5 C15_26
abbrev C15_28 := Sq [1,2,5] C15_1 C15_27
abbrev C15_29 := Sq [1,2] C15_0 C15_28
abbrev C15 := C15_29
abbrev C15r : List RV := [.t 4]
theorem C15ok : Okf Tryz.prog 15 Tryz.f15 C15 C15r := ⟨Tryz.func15, by kernel_rfl, by kernel_rfl, by kernel_rfl⟩

/-- mimesis/mimesisref23.exit -/
abbrev C16_0 := Ro [Br 3 t0,As 6 kF]
abbrev C16_1 := Ro [Mv 9 t1,Bn 10 .lss t9 (kI 0),Mv 11 t10,Mvf 12 11 t1,Faf 13 11 2 t3,Ldf 14 11 none t13,Lnf 15 11 t14,Bnf 16 11 .geq t12 t15,Pk 17 t11 kT t16]
abbrev C16_2 := Ro [As 6 kF]
abbrev C16_3 := Sq [6] C16_2 .ret
abbrev C16_4 := Cd t17 C16_3 .skip
abbrev C16_5 := Sq [1,2,3,17] C16_1 C16_4
abbrev C16_6 := Ro [Fa 18 2 t3,Ld 19 none t18,Mv 20 t1,Ix 21 5 t19 t20,Ld 22 (some 5) t21,Al 7 [zi,z4,zi,zi,.nils],Sxn 5 t7 t22]
abbrev C16_7 := Ro [As 8 (kI 0)]
abbrev C16_8 := Ro [Mv 23 t8,Fa 24 4 t7,Ld 25 none t24,Ln 26 t25,Bn 27 .lss t23 t26]
abbrev C16_9 := Cd t27 .skip (.exit 0)
abbrev C16_10 := Sq [2,3,7,8,27] C16_8 C16_9
abbrev C16_11 := Dr [Ld 30 (some 4) t3,Fa 31 4 t7,Ld 32 none t31,Mv 33 t8,Ix 34 2 t32 t33,Fa 35 1 t34,Ld 36 none t35,Mv 37 t2,Ca 38 33 [t30,t36,t37],Un 39 .not t38] [[],[],[1],[],[2,3],[4],[5],[],[0,6,7],[8]] [(0,[]),(1,[]),(2,[]),(3,[]),(4,[]),(5,[]),(6,[]),(7,[]),(8,[]),(9,[])]
abbrev C16_12 := Ro [As 6 kF]
abbrev C16_13 := Sq [6] C16_12 .ret
abbrev C16_14 := Cd t39 C16_13 .skip
abbrev C16_15 := Sq [2,3,7,8,39] C16_11 C16_14
abbrev C16_16 := Bk 1 C16_15
abbrev C16_17 := Ro [Mv 28 t8,Bn 29 .add t28 (kI 1),As 8 t29]
abbrev C16_18 := Sq [2,3,7,8] C16_16 C16_17
abbrev C16_19 := Sq [2,3,7,8] C16_10 C16_18
abbrev C16_20 : ACode := .loop C16_19
abbrev C16_21 := Bk 0 C16_20
abbrev C16_22 := Sq [2,3,7,8] C16_7 C16_21
abbrev C16_23 := Ro [Fa 40 2 t7,Ld 41 none t40,Bn 42 .eql t41 (kI (-1)),Mv 43 t42,Ldf 44 43 (some 4) t3,Faf 45 43 2 t7,Ldf 46 43 none t45,Mvf 47 43 t2,Caf 48 43 33 [t44,t46,t47],Pk 49 t43 kT t48,As 6 t49]
abbrev C16_24 := Sq [6] C16_23 .ret
abbrev C16_25 := Sq [2,3,7] C16_22 C16_24
abbrev C16_26 : ACode := .fz 7 C16_25
abbrev C16_27 := Sq [2,3,7] C16_6 C16_26
abbrev C16_28 := Sq [1,2,3] C16_5 C16_27
abbrev C16_29 := Sq [1,2,3] C16_0 C16_28
abbrev C16 := C16_29
abbrev C16r : List RV := [.t 6]
theorem C16ok : Okf Tryz.prog 16 Tryz.f16 C16 C16r := ⟨Tryz.func16, by kernel_rfl, by kernel_rfl, by kernel_rfl⟩

/-- mimesis/cpu.New -/
abbrev C17_0 := Ro [As 6 kP,As 7 (kI 0)]
abbrev C17_1 := Ro [Mv 14 t0,Ca 15 36 [t14],Mv 13 t15,Ex 16 0 t13,Ex 17 1 t13,As 8 t16,As 9 t17]
abbrev C17_2 := Ro [Mv 18 t9,Bn 19 .neq t18 (kI 0)]
abbrev C17_3 := Ro [Mv 20 t9,As 6 kP,As 7 t20]
abbrev C17_4 := Sq [6,7] C17_3 .ret
abbrev C17_5 := Cd t19 C17_4 .skip
abbrev C17_6 := Sq [1,2,8,9,19] C17_2 C17_5
abbrev C17_7 := Ro [Mv 21 t8,Mv 22 t1,Ca 23 37 [t21,t22],As 10 t23]
abbrev C17_8 := Ro [Mv 24 t10,Bn 25 .neq t24 (kI 0)]
abbrev C17_9 := Ro [Mv 26 t10,As 6 kP,As 7 t26]
abbrev C17_10 := Sq [6,7] C17_9 .ret
abbrev C17_11 := Cd t25 C17_10 .skip
abbrev C17_12 := Sq [2,8,10,25] C17_8 C17_11
abbrev C17_13 := Sq [2,8,10] C17_7 C17_12
abbrev C17_14 := Ro [Mv 28 t2,Ca 29 38 [t28],Mv 27 t29,Ex 30 0 t27,Ex 31 1 t27,As 11 t30,As 9 t31]
abbrev C17_15 := Ro [Mv 32 t9,Bn 33 .neq t32 (kI 0)]
abbrev C17_16 := Ro [Mv 34 t9,As 6 kP,As 7 t34]
abbrev C17_17 := Sq [6,7] C17_16 .ret
abbrev C17_18 := Cd t33 C17_17 .skip
abbrev C17_19 := Sq [8,9,11,33] C17_15 C17_18
abbrev C17_20 := Ro [Mv 36 t8,Mv 37 t11,Ca 38 40 [],Ca 39 39 [t36,t37,t38],Mv 35 t39,Ex 40 0 t35,Ex 41 1 t35,As 12 t40,As 9 t41]
abbrev C17_21 := Ro [Ca 42 41 [],Mv 43 t12,⟨(some 44),none,.r (.bld [z4,z4,z4,z4,z4,z4,z4,z4,z4,z4,z4,z4,z4,z4,z4,z4,z4,z4,z4,z4,z4,z4,z4,z4,z4,z4,z4,z4,z4,z4,z4,z4,z4,z4,z4,z4,z4,z4,z4,z4,z8,z8,z8,z8,.nilp,.nils] [(0,1,(kU 2147483648)),(33,9,t42),(44,1,t43)])⟩,⟨(some 45),none,.e (.box t44)⟩,Mv 46 t9,As 6 t45,As 7 t46]
abbrev C17_22 := Sq [6,7] C17_21 .ret
abbrev C17_23 := Sq [9,12] C17_20 C17_22
abbrev C17_24 := Sq [8,11] C17_19 C17_23
abbrev C17_25 := Sq [8,9,11] C17_14 C17_24
abbrev C17_26 := Sq [2,8] C17_13 C17_25
abbrev C17_27 := Sq [1,2,8] C17_6 C17_26
abbrev C17_28 := Sq [1,2,8,9] C17_1 C17_27
abbrev C17_29 := Sq [0,1,2] C17_0 C17_28
abbrev C17 := C17_29
abbrev C17r : List RV := [.t 6,.t 7]
theorem C17ok : Okf Tryz.prog 17 Tryz.f17 C17 C17r := ⟨Tryz.func17, by kernel_rfl, by kernel_rfl, by kernel_rfl⟩

/-- (*mimesis/cpu.Cpu).Reg -/
abbrev C18_0 := Ro [As 4 (kU 0)]
abbrev C18_1 := Ro [Mv 5 t0,Mv 6 t1,Ca 7 42 [t5,t6],Un 8 .not t7,Mv 9 t8,Mvf 10 9 t1,Bnf 11 9 .eql t10 (kI 0),Pk 12 t9 kT t11]
abbrev C18_2 := Ro [As 4 (kU 0)]
abbrev C18_3 := Sq [4] C18_2 .ret
abbrev C18_4 := Cd t12 C18_3 .skip
abbrev C18_5 := Sq [0,1,12] C18_1 C18_4
abbrev C18_6 := Ro [Mv 13 t0,Mv 14 t1,Nc 15 t13,Fa 16 1 t15,⟨(some 17),none,.r (.ixa 32 1 t16 t14)⟩,Ld 18 none t17,As 4 t18]
abbrev C18_7 := Sq [4] C18_6 .ret
abbrev C18_8 := Sq [0,1] C18_5 C18_7
abbrev C18_9 := Sq [0,1] C18_0 C18_8
abbrev C18 := C18_9
abbrev C18r : List RV := [.t 4]
theorem C18ok : Okf Tryz.prog 18 Tryz.f18 C18 C18r := ⟨Tryz.func18, by kernel_rfl, by kernel_rfl, by kernel_rfl⟩

/-- mimesis/apply.asked -/
abbrev C19_0 := Ro [As 6 (kI 0)]
abbrev C19_1 := Ro [Mv 10 t0,Ep 11 false t10 kP]
abbrev C19_2 := Ro [As 6 (kI 2)]
abbrev C19_3 := Sq [6] C19_2 .ret
abbrev C19_4 := Cd t11 C19_3 .skip
abbrev C19_5 := Sq [0,1,2,11] C19_1 C19_4
abbrev C19_6 := Ro [Mv 12 t1,Ca 13 43 [t12],As 7 t13]
abbrev C19_7 := Ro [Mv 14 t7,Bn 15 .neq t14 (kI 0)]
abbrev C19_8 := Ro [Mv 16 t7,As 6 t16]
abbrev C19_9 := Sq [6] C19_8 .ret
abbrev C19_10 := Cd t15 C19_9 .skip
abbrev C19_11 := Sq [0,1,2,7,15] C19_7 C19_10
abbrev C19_12 := Sq [0,1,2,7] C19_6 C19_11
abbrev C19_13 := Ro [Mv 18 t0,Ca 19 10 [t18],Ca 20 44 [t19],Mv 17 t20,Ex 21 0 t17,Ex 22 1 t17,As 8 t21,As 9 t22]
abbrev C19_14 := Dr [Mv 23 t9,Mv 24 t23,Mvf 25 24 t1,Ncf 26 24 t25,Faf 27 24 0 t26,Ldf 28 24 none t27,Ixf 29 24 1 t28 (kI 0),Ldf 30 24 none t29,Mvf 31 24 t0,Ncf 32 24 t31,Faf 33 24 0 t32,Ldf 34 24 none t33,Bnf 35 24 .neq t30 t34,Pk 36 t24 kT t35,Mv 37 t36,Mvf 38 37 t1,Ncf 39 37 t38,Faf 40 37 0 t39,Ldf 41 37 none t40,Lnf 42 37 t41,Mvf 43 37 t2,Bnf 44 37 .gtr t42 t43,Pk 45 t37 kT t44,Mv 46 t45,Mvf 47 46 t1,Ncf 48 46 t47,Faf 49 46 0 t48,Ldf 50 46 none t49,Lnf 51 46 t50,Cvf 52 46 .u64 t51,Mvf 53 46 t0,Caf 54 46 45 [t53],Bnf 55 46 .gtr t52 t54,Pk 56 t46 kT t55] [[],[0],[1],[2,1],[3,1],[4,1],[5,1],[6,1],[1],[8,1],[9,1],[10,1],[7,11,1],[1,12],[13,1],[14],[15,14],[16,14],[17,14],[18,14],[14],[19,20,14],[14,21],[22,14],[23],[24,23],[25,23],[26,23],[27,23],[28,23],[23],[30,23,23],[29,31,23],[23,32]] [(0,[]),(1,[]),(2,[]),(3,[]),(4,[]),(5,[]),(6,[]),(7,[]),(8,[]),(9,[]),(10,[]),(11,[]),(12,[]),(13,[]),(14,[]),(15,[]),(16,[]),(17,[]),(18,[]),(19,[]),(20,[]),(21,[]),(22,[]),(23,[]),(24,[]),(25,[]),(26,[]),(27,[]),(28,[]),(29,[]),(30,[]),(31,[24,25,26,27,28,29]),(32,[]),(33,[])]
abbrev C19_15 := Ro [As 6 (kI 4)]
abbrev C19_16 := Sq [6] C19_15 .ret
abbrev C19_17 := Cd t56 C19_16 .skip
abbrev C19_18 := Sq [56] C19_14 C19_17
abbrev C19_19 := Sq [0,1,2,9] C19_13 C19_18
abbrev C19_20 := Ro [As 6 (kI 0)]
abbrev C19_21 := Sq [6] C19_20 .ret
abbrev C19_22 := Sq [] C19_19 C19_21
abbrev C19_23 := Sq [0,1,2] C19_12 C19_22
abbrev C19_24 := Sq [0,1,2] C19_5 C19_23
abbrev C19_25 := Sq [0,1,2] C19_0 C19_24
abbrev C19 := C19_25
abbrev C19r : List RV := [.t 6]
theorem C19ok : Okf Tryz.prog 19 Tryz.f19 C19 C19r := ⟨Tryz.func19, by kernel_rfl, by kernel_rfl, by kernel_rfl⟩

/-- mimesis/eval.Do -/
abbrev C20_0 := Ro [Br 4 t1,Al 6 [z4,z4,z4,z4,z4,z4,z4,z4,z4,z4,z4,z4,z4,z4,z4,z4,z4,z4,z4,z4,z4,z4,z4,z4,z4,z4,z4,z4,z4,z4,z4,z4,z4,zi,zi,zi],As 7 (kI 0)]
abbrev C20_1 := Ro [Mv 13 t0,Ca 14 43 [t13],As 8 t14]
abbrev C20_2 := Ro [Mv 15 t8,Bn 16 .neq t15 (kI 0)]
abbrev C20_3 := Ro [⟨(some 17),none,.r (.bld [z4,z4,z4,z4,z4,z4,z4,z4,z4,z4,z4,z4,z4,z4,z4,z4,z4,z4,z4,z4,z4,z4,z4,z4,z4,z4,z4,z4,z4,z4,z4,z4,z4,zi,zi,zi] [])⟩,Mv 18 t8,Sxn 36 t6 t17,As 7 t18]
abbrev C20_4 := Sq [6,7] C20_3 .ret
abbrev C20_5 := Cd t16 C20_4 .skip
abbrev C20_6 := Sq [0,2,4,6,8,16] C20_2 C20_5
abbrev C20_7 := Sq [0,2,4,6,8] C20_1 C20_6
abbrev C20_8 := Ro [Mv 19 t2,Ep 20 false t19 kP]
abbrev C20_9 := Ro [⟨(some 21),none,.r (.bld [z4,z4,z4,z4,z4,z4,z4,z4,z4,z4,z4,z4,z4,z4,z4,z4,z4,z4,z4,z4,z4,z4,z4,z4,z4,z4,z4,z4,z4,z4,z4,z4,z4,zi,zi,zi] [])⟩,Sxn 36 t6 t21,As 7 (kI 2)]
abbrev C20_10 := Sq [6,7] C20_9 .ret
abbrev C20_11 := Cd t20 C20_10 .skip
abbrev C20_12 := Sq [0,2,4,6,20] C20_8 C20_11
abbrev C20_13 := Ro [Mv 22 t0,Ld 23 (some 32) t4,Mv 24 t2,⟨(some 25),none,.r (.bld [.nilp,z4,z4,z4,z4,z4,z4,z4,z4,z4,z4,z4,z4,z4,z4,z4,z4,z4,z4,z4,z4,z4,z4,z4,z4,z4,z4,z4,z4,z4,z4,z4,z4,.nilp,.nils] [(0,1,t22),(1,32,t23),(33,1,t24)])⟩,⟨(some 26),none,.e (.box t25)⟩,As 9 t26]
abbrev C20_14 := Ro [Mv 27 t0,Nc 28 t27,Fa 29 1 t28,Ld 30 none t29,Ln 31 t30,Mv 32 (kI 0)]
abbrev C20_15 := Ro [Bn 33 .lss t32 t31]
abbrev C20_16 := Cd t33 .skip (.exit 0)
abbrev C20_17 := Ro [Ix 34 6 t30 t32,Ld 35 (some 6) t34,Al 11 [zi,zi,zi,z4,zi,zi],Sxn 6 t11 t35]
abbrev C20_18 := Ro [Mv 36 t9,Ld 37 (some 6) t11,Ca 38 46 [t36,t37],As 12 t38]
abbrev C20_19 := Ro [Mv 39 t12,Bn 40 .neq t39 (kI (-1))]
abbrev C20_20 := Ro [Mv 41 t9,Mv 42 t12,Ca 43 47 [t41,t42],Sxn 36 t6 t43,As 7 (kI 0)]
abbrev C20_21 := Sq [6,7] C20_20 .ret
abbrev C20_22 := Cd t40 C20_21 .skip
abbrev C20_23 := Sq [0,6,9,12,30,31,32,40] C20_19 C20_22
abbrev C20_24 := Sq [0,6,9,12,30,31,32] C20_18 C20_23
abbrev C20_25 : ACode := .fz 11 C20_24
abbrev C20_26 := Sq [0,6,9,11,30,31,32] C20_17 C20_25
abbrev C20_27 := Bk 1 C20_26
abbrev C20_28 := Ro [Bn 44 .add t32 (kI 1),Mv 32 t44]
abbrev C20_29 := Sq [0,6,9,30,31,32] C20_27 C20_28
abbrev C20_30 := Sq [0,6,9,30,31,32] C20_16 C20_29
abbrev C20_31 := Sq [0,6,9,30,31,32,33] C20_15 C20_30
abbrev C20_32 : ACode := .loop C20_31
abbrev C20_33 := Bk 0 C20_32
abbrev C20_34 := Sq [0,6,9,30,31,32] C20_14 C20_33
abbrev C20_35 := Ro [Mv 45 t9,Mv 46 t0,Nc 47 t46,Fa 48 3 t47,Ld 49 none t48,Ca 50 47 [t45,t49],Sxn 36 t6 t50,As 7 (kI 0)]
abbrev C20_36 := Sq [6,7] C20_35 .ret
abbrev C20_37 := Sq [0,6,9] C20_34 C20_36
abbrev C20_38 := Sq [0,6,9] C20_13 C20_37
abbrev C20_39 := Sq [0,2,4,6] C20_12 C20_38
abbrev C20_40 := Sq [0,2,4,6] C20_7 C20_39
abbrev C20_41 := Sq [0,2,4,6] C20_0 C20_40
abbrev C20 := C20_41
abbrev C20r : List RV := [.c 6 (some 36),.t 7]
theorem C20ok : Okf Tryz.prog 20 Tryz.f20 C20 C20r := ⟨Tryz.func20, by kernel_rfl, by kernel_rfl, by kernel_rfl⟩

/-- (*mimesis/bus.Bus).Ram -/
abbrev C21_0 := Ro [As 2 kP]
abbrev C21_1 := Ro [Mv 3 t0,Ep 4 false t3 kP]
abbrev C21_2 := Ro [As 2 kP]
abbrev C21_3 := Sq [2] C21_2 .ret
abbrev C21_4 := Cd t4 C21_3 .skip
abbrev C21_5 := Sq [0,4] C21_1 C21_4
abbrev C21_6 := Ro [Mv 5 t0,Nc 6 t5,Fa 7 0 t6,Ld 8 none t7,As 2 t8]
abbrev C21_7 := Sq [2] C21_6 .ret
abbrev C21_8 := Sq [0] C21_5 C21_7
abbrev C21_9 := Sq [0] C21_0 C21_8
abbrev C21 := C21_9
abbrev C21r : List RV := [.t 2]
theorem C21ok : Okf Tryz.prog 21 Tryz.f21 C21 C21r := ⟨Tryz.func21, by kernel_rfl, by kernel_rfl, by kernel_rfl⟩

/-- mimesis/mimesislaw18.Parts -/
abbrev C22_0 := Ro [As 2 kS]
abbrev C22_1 := Ro [⟨(some 5),none,.e (.bsl 0 [] [])⟩,As 3 t5]
abbrev C22_2 := Ro [As 4 (kI 0)]
abbrev C22_3 := Ro [Mv 6 t4,Mv 7 t0,Ln 8 t7,Bn 9 .lss t6 t8]
abbrev C22_4 := Cd t9 .skip (.exit 0)
abbrev C22_5 := Sq [0,3,4,9] C22_3 C22_4
abbrev C22_6 := Dr [Mv 12 t3,Mv 13 t0,Mv 14 t4,Ix 15 2 t13 t14,Fa 16 0 t15,Ld 17 none t16,Mv 18 t0,Mv 19 t4,Ix 20 2 t18 t19,Fa 21 1 t20,Ld 22 none t21,⟨(some 23),none,.r (.bld [.int .u32 0,.nils] [(0,1,t17),(1,1,t22)])⟩,⟨(some 24),none,.e (.bsr 1 [.int .u32 0,.nils] [(0,2,t23)])⟩,Ap 25 2 32 t12 t24,As 3 t25] [[],[],[],[1,2],[3],[4],[],[],[6,7],[8],[9],[5,10],[11],[0,12],[13,13,0,1,2,3,4,5,6,7,8,9,10,11,12,13]] [(0,[]),(1,[]),(2,[]),(3,[]),(4,[]),(5,[]),(6,[]),(7,[]),(8,[]),(9,[]),(10,[]),(11,[]),(12,[0]),(13,[]),(14,[])]
abbrev C22_7 := Bk 1 C22_6
abbrev C22_8 := Ro [Mv 10 t4,Bn 11 .add t10 (kI 1),As 4 t11]
abbrev C22_9 := Sq [0,3,4] C22_7 C22_8
abbrev C22_10 := Sq [0,3,4] C22_5 C22_9
abbrev C22_11 : ACode := .loop C22_10
abbrev C22_12 := Bk 0 C22_11
abbrev C22_13 := Sq [0,3,4] C22_2 C22_12
abbrev C22_14 := Ro [Mv 26 t3,As 2 t26]
abbrev C22_15 := Sq [2] C22_14 .ret
abbrev C22_16 := Sq [3] C22_13 C22_15
abbrev C22_17 := Sq [0,3] C22_1 C22_16
abbrev C22_18 := Sq [0] C22_0 C22_17
abbrev C22 := C22_18
abbrev C22r : List RV := [.t 2]
theorem C22ok : Okf Tryz.prog 22 Tryz.f22 C22 C22r := ⟨Tryz.func22, by kernel_rfl, by kernel_rfl, by kernel_rfl⟩

/-- (*mimesis/bus.Bus).Timer -/
abbrev C23_0 := Ro [As 2 kP]
abbrev C23_1 := Ro [Mv 3 t0,Ep 4 false t3 kP]
abbrev C23_2 := Ro [As 2 kP]
abbrev C23_3 := Sq [2] C23_2 .ret
abbrev C23_4 := Cd t4 C23_3 .skip
abbrev C23_5 := Sq [0,4] C23_1 C23_4
abbrev C23_6 := Ro [Mv 5 t0,Nc 6 t5,Fa 7 2 t6,Ld 8 none t7,As 2 t8]
abbrev C23_7 := Sq [2] C23_6 .ret
abbrev C23_8 := Sq [0] C23_5 C23_7
abbrev C23_9 := Sq [0] C23_0 C23_8
abbrev C23 := C23_9
abbrev C23r : List RV := [.t 2]
theorem C23ok : Okf Tryz.prog 23 Tryz.f23 C23 C23r := ⟨Tryz.func23, by kernel_rfl, by kernel_rfl, by kernel_rfl⟩

/-- (*mimesis/bus.Bus).asked -/
abbrev C24_0 := Ro [As 6 (kI 0)]
abbrev C24_1 := Ro [Mv 8 t0,Ep 9 false t8 kP,Mv 10 t9,Mvf 11 10 t2,Bnf 12 10 .neq t11 (kI 1),Mvf 13 10 t12,Mvt 14 13 t2,Bnt 15 13 .neq t14 (kI 2),Pkf 16 10 t13 t15 kF,Mvf 17 10 t16,Mvt 18 17 t2,Bnt 19 17 .neq t18 (kI 4),Pkf 20 10 t17 t19 kF,Pk 21 t10 kT t20,As 7 t21]
abbrev C24_2 := Ro [As 6 (kI 2)]
abbrev C24_3 := Sq [6] C24_2 .ret
abbrev C24_4 := Ro [Mv 23 t1,Mv 24 t2,Cv 25 .u32 t24,Bn 26 .rem t23 t25,Bn 27 .neq t26 (kU 0),As 22 t27]
abbrev C24_5 := Ro [As 6 (kI 5)]
abbrev C24_6 := Sq [6] C24_5 .ret
abbrev C24_7 := Ro [Mv 29 t0,Mv 30 t1,Mv 31 t2,Ca 32 25 [t29,t30,t31],Bn 33 .eql t32 (kI 0),As 28 t33]
abbrev C24_8 := Ro [As 6 (kI 6)]
abbrev C24_9 := Sq [6] C24_8 .ret
abbrev C24_10 := Cd t28 C24_9 .skip
abbrev C24_11 := Sq [28] C24_7 C24_10
abbrev C24_12 := Cd t22 C24_6 C24_11
abbrev C24_13 := Sq [0,1,2,22] C24_4 C24_12
abbrev C24_14 := Cd t7 C24_3 C24_13
abbrev C24_15 := Sq [0,1,2,7] C24_1 C24_14
abbrev C24_16 := Bk 0 C24_15
abbrev C24_17 := Ro [As 6 (kI 0)]
abbrev C24_18 := Sq [6] C24_17 .ret
abbrev C24_19 := Sq [] C24_16 C24_18
abbrev C24_20 := Sq [0,1,2] C24_0 C24_19
abbrev C24 := C24_20
abbrev C24r : List RV := [.t 6]
theorem C24ok : Okf Tryz.prog 24 Tryz.f24 C24 C24r := ⟨Tryz.func24, by kernel_rfl, by kernel_rfl, by kernel_rfl⟩

/-- (*mimesis/bus.Bus).Class -/
abbrev C25_0 := Ro [As 6 (kI 0)]
abbrev C25_1 := Ro [Mv 8 t0,Ep 9 false t8 kP,Mv 10 t9,Mvf 11 10 t2,Bnf 12 10 .neq t11 (kI 1),Mvf 13 10 t12,Mvt 14 13 t2,Bnt 15 13 .neq t14 (kI 2),Pkf 16 10 t13 t15 kF,Mvf 17 10 t16,Mvt 18 17 t2,Bnt 19 17 .neq t18 (kI 4),Pkf 20 10 t17 t19 kF,Pk 21 t10 kT t20,Mv 22 t21,Mvf 23 22 t1,Mvf 24 22 t2,Cvf 25 22 .u32 t24,Bnf 26 22 .rem t23 t25,Bnf 27 22 .neq t26 (kU 0),Pk 28 t22 kT t27,As 7 t28]
abbrev C25_2 := Ro [As 6 (kI 0)]
abbrev C25_3 := Sq [6] C25_2 .ret
abbrev C25_4 := Ro [Mv 30 t0,Nc 31 t30,Fa 32 0 t31,Ld 33 none t32,Mv 34 t1,Mv 35 t2,Ca 36 48 [t33,t34,t35],As 29 t36]
abbrev C25_5 := Ro [As 6 (kI 1)]
abbrev C25_6 := Sq [6] C25_5 .ret
abbrev C25_7 := Ro [Mv 38 t2,Bn 39 .eql t38 (kI 4),Mv 40 t39,Mvt 41 40 t1,Cat 42 40 27 [t41],Bnt 43 40 .geq t42 (kI 0),Pk 44 t40 t43 kF,As 37 t44]
abbrev C25_8 := Ro [As 6 (kI 2)]
abbrev C25_9 := Sq [6] C25_8 .ret
abbrev C25_10 := Cd t37 C25_9 .skip
abbrev C25_11 := Sq [37] C25_7 C25_10
abbrev C25_12 := Cd t29 C25_6 C25_11
abbrev C25_13 := Sq [1,2,29] C25_4 C25_12
abbrev C25_14 := Cd t7 C25_3 C25_13
abbrev C25_15 := Sq [0,1,2,7] C25_1 C25_14
abbrev C25_16 := Bk 0 C25_15
abbrev C25_17 := Ro [As 6 (kI 0)]
abbrev C25_18 := Sq [6] C25_17 .ret
abbrev C25_19 := Sq [] C25_16 C25_18
abbrev C25_20 := Sq [0,1,2] C25_0 C25_19
abbrev C25 := C25_20
abbrev C25r : List RV := [.t 6]
theorem C25ok : Okf Tryz.prog 25 Tryz.f25 C25 C25r := ⟨Tryz.func25, by kernel_rfl, by kernel_rfl, by kernel_rfl⟩

/-- (*mimesis/ram.Ram).Store -/
abbrev C26_0 := Ro [As 8 kF,As 9 (kI 0)]
abbrev C26_1 := Ro [Mv 15 t0,Mv 16 t1,Mv 17 t2,Ca 18 49 [t15,t16,t17],As 10 t18]
abbrev C26_2 := Ro [Mv 19 t10,Bn 20 .neq t19 (kI 0)]
abbrev C26_3 := Ro [Mv 21 t10,As 8 kF,As 9 t21]
abbrev C26_4 := Sq [8,9] C26_3 .ret
abbrev C26_5 := Cd t20 C26_4 .skip
abbrev C26_6 := Sq [0,1,2,3,10,20] C26_2 C26_5
abbrev C26_7 := Sq [0,1,2,3,10] C26_1 C26_6
abbrev C26_8 := Ro [Mv 23 t3,Mv 24 t2,Ca 25 50 [t23,t24],Mv 22 t25,Ex 26 0 t22,Ex 27 1 t22,As 11 t26,As 12 t27]
abbrev C26_9 := Ro [Mv 28 t0,Mv 29 t1,Mv 30 t2,Ca 31 51 [t28,t29,t30],Mv 32 t11,⟨(some 33),none,.e (.cpy 1 t31 t32)⟩]
abbrev C26_10 := Ro [Mv 34 t0,Mv 35 t1,Ca 36 52 [t34,t35],As 13 t36]
abbrev C26_11 := Ro [Mv 37 t0,Nc 38 t37,Fa 39 1 t38,Ld 40 none t39,Mv 41 t13,Ix 42 1 t40 t41,Ld 43 none t42,As 14 t43]
abbrev C26_12 := Ro [Mv 44 t14]
abbrev C26_13 := Ro [Mv 45 t0,Nc 46 t45,Fa 47 1 t46,Ld 48 none t47,Mv 49 t13,Ix 50 1 t48 t49,Sxn 1 t50 kF]
abbrev C26_14 := Ro [Mv 51 t0,Nc 52 t51,Fa 53 2 t52,Ld 54 none t53,Mv 55 t13,Ix 56 1 t54 t55,Ld 57 none t56,Bn 58 .add t57 (kL 1),Ix 59 1 t54 t55,Sxn 1 t59 t58]
abbrev C26_15 := Sq [0,13,14] C26_13 C26_14
abbrev C26_16 := Cd t44 C26_15 .skip
abbrev C26_17 := Sq [0,13,14,44] C26_12 C26_16
abbrev C26_18 := Ro [Mv 60 t14,As 8 t60,As 9 (kI 0)]
abbrev C26_19 := Sq [8,9] C26_18 .ret
abbrev C26_20 := Sq [14] C26_17 C26_19
abbrev C26_21 := Sq [0,13,14] C26_11 C26_20
abbrev C26_22 := Sq [0,13] C26_10 C26_21
abbrev C26_23 := Sq [0,1] C26_9 C26_22
abbrev C26_24 := Sq [0,1,2,11] C26_8 C26_23
abbrev C26_25 := Sq [0,1,2,3] C26_7 C26_24
abbrev C26_26 := Sq [0,1,2,3] C26_0 C26_25
abbrev C26 := C26_26
abbrev C26r : List RV := [.t 8,.t 9]
theorem C26ok : Okf Tryz.prog 26 Tryz.f26 C26 C26r := ⟨Tryz.func26, by kernel_rfl, by kernel_rfl, by kernel_rfl⟩

/-- mimesis/bus.device -/
abbrev C27_0 := Ro [As 2 (kI 0)]
abbrev C27_1 := Ro [As 3 (kI (-1))]
abbrev C27_2 := Ro [Ld 6 (some 10) (.global 0),Mv 7 (kI 0)]
abbrev C27_3 := Ro [Bn 8 .lss t7 (kI 5)]
abbrev C27_4 := Cd t8 .skip (.exit 0)
abbrev C27_5 := Ro [Mv 9 t7,⟨(some 10),none,.r (.ixv 5 2 (some 2) t6 t7)⟩,Al 5 [.int .u32 0,.int .u32 0],As 4 t9,Sxn 2 t5 t10]
abbrev C27_6 := Ro [Mv 12 t0,⟨(some 13),none,.r (.ixa 2 1 t5 (kI 0))⟩,Ld 14 none t13,Bn 15 .lss t12 t14,As 11 t15]
abbrev C27_7 := Ro [Mv 16 t0,⟨(some 17),none,.r (.ixa 2 1 t5 (kI 0))⟩,Ld 18 none t17,Bn 19 .sub t16 t18,⟨(some 20),none,.r (.ixa 2 1 t5 (kI 1))⟩,Ld 21 none t20,Bn 22 .geq t19 t21,As 11 t22]
abbrev C27_8 := Cd t11 .skip C27_7
abbrev C27_9 := Sq [0,3,4,5,6,7,11] C27_6 C27_8
abbrev C27_10 := Cd t11 (.exit 1) .skip
abbrev C27_11 := Sq [0,3,4,6,7,11] C27_9 C27_10
abbrev C27_12 := Bk 2 C27_11
abbrev C27_13 := Ro [Mv 23 t4,As 3 t23]
abbrev C27_14 := Sq [3] C27_13 (.exit 0)
abbrev C27_15 := Sq [4] C27_12 C27_14
abbrev C27_16 : ACode := .fz 5 C27_15
abbrev C27_17 := Sq [0,3,4,5,6,7] C27_5 C27_16
abbrev C27_18 := Bk 1 C27_17
abbrev C27_19 := Ro [Bn 24 .add t7 (kI 1),Mv 7 t24]
abbrev C27_20 := Sq [0,3,6,7] C27_18 C27_19
abbrev C27_21 := Sq [0,3,6,7] C27_4 C27_20
abbrev C27_22 := Sq [0,3,6,7,8] C27_3 C27_21
abbrev C27_23 : ACode := .loop C27_22
abbrev C27_24 := Bk 0 C27_23
abbrev C27_25 := Sq [0,3,6,7] C27_2 C27_24
abbrev C27_26 := Ro [Mv 25 t3,As 2 t25]
abbrev C27_27 := Sq [2] C27_26 .ret
abbrev C27_28 := Sq [3] C27_25 C27_27
abbrev C27_29 := Sq [0,3] .lab C27_28
abbrev C27_30 := Sq [0,3] C27_1 C27_29
abbrev C27_31 : ACode := .scp C27_30
abbrev C27_32 := Sq [0] C27_0 C27_31
abbrev C27 := C27_32
abbrev C27r : List RV := [.t 2]
theorem C27ok : Okf Tryz.prog 27 Tryz.f27 C27 C27r := ⟨Tryz.func27, by kernel_rfl, by kernel_rfl, by kernel_rfl⟩

/-- (*mimesis/console.Console).Write -/
abbrev C28_0 := Ro [As 6 (kI 0)]
abbrev C28_1 := Ro [Mv 8 t0,Ep 9 false t8 kP]
abbrev C28_2 := Ro [As 6 (kI 6)]
abbrev C28_3 := Sq [6] C28_2 .ret
abbrev C28_4 := Cd t9 C28_3 .skip
abbrev C28_5 := Sq [0,1,2,9] C28_1 C28_4
abbrev C28_6 := Ro [Mv 10 t0,⟨(some 11),none,.r (.mkf 53 [t10] [])⟩,As 7 t11]
abbrev C28_7 := Ro [Mv 12 t1]
abbrev C28_8 := Ro [Bn 14 .eql t12 (kI 0),As 13 t14]
abbrev C28_9 := Ro [Bn 16 .eql t12 (kI 4),As 15 t16]
abbrev C28_10 := Ro [Mv 17 t0,⟨(some 18),none,.r (.mkf 54 [t17] [])⟩,As 7 t18]
abbrev C28_11 := Ro [As 6 (kI 6)]
abbrev C28_12 := Sq [6] C28_11 .ret
abbrev C28_13 := Cd t15 C28_10 C28_12
abbrev C28_14 := Sq [0,2,15] C28_9 C28_13
abbrev C28_15 := Cd t13 .skip C28_14
abbrev C28_16 := Sq [0,2,7,12,13] C28_8 C28_15
abbrev C28_17 := Bk 0 C28_16
abbrev C28_18 := Sq [0,2,7,12] C28_7 C28_17
abbrev C28_19 := Ro [Mv 19 t7,Mv 20 t2,⟨(some 21),none,.e (.callv t19 [t20])⟩]
abbrev C28_20 := Ro [As 6 (kI 0)]
abbrev C28_21 := Sq [6] C28_20 .ret
abbrev C28_22 := Sq [] C28_19 C28_21
abbrev C28_23 := Sq [2,7] C28_18 C28_22
abbrev C28_24 := Sq [0,1,2,7] C28_6 C28_23
abbrev C28_25 := Sq [0,1,2] C28_5 C28_24
abbrev C28_26 := Sq [0,1,2] C28_0 C28_25
abbrev C28 := C28_26
abbrev C28r : List RV := [.t 6]
theorem C28ok : Okf Tryz.prog 28 Tryz.f28 C28 C28r := ⟨Tryz.func28, by kernel_rfl, by kernel_rfl, by kernel_rfl⟩

/-- (*mimesis/timer.Timer).Write -/
abbrev C29_0 := Ro [Br 5 t1,Br 6 t2,As 8 (kI 0)]
abbrev C29_1 := Ro [Mv 10 t0,Ep 11 false t10 kP,Mv 12 t11,Ldf 13 12 none t5,Caf 14 12 55 [t13],Unf 15 12 .not t14,Pk 16 t12 kT t15]
abbrev C29_2 := Ro [As 8 (kI 6)]
abbrev C29_3 := Sq [8] C29_2 .ret
abbrev C29_4 := Cd t16 C29_3 .skip
abbrev C29_5 := Sq [0,3,5,6,16] C29_1 C29_4
abbrev C29_6 := Ro [⟨(some 17),none,.r (.mkf 56 [] [t5,t6])⟩,As 9 t17]
abbrev C29_7 := Ro [Ld 18 none t5,Bn 19 .andNot t18 (kU 7)]
abbrev C29_8 := Ro [Bn 31 .eql t19 (kU 33570816),As 30 t31]
abbrev C29_9 := Ro [Mv 32 t0,Mv 33 t9,Mv 34 t0,Nc 35 t34,Fa 36 1 t35,Ld 37 none t36,⟨(some 38),none,.e (.callv t33 [t37])⟩,Nc 39 t32,Fa 40 1 t39,Sxn 1 t40 t38]
abbrev C29_10 := Ro [Bn 42 .eql t19 (kU 33554432),As 41 t42]
abbrev C29_11 := Ro [Mv 43 t0,Ld 44 none t6,Bn 45 .and t44 (kU 1),Bn 46 .eql t45 (kU 1),Nc 47 t43,Fa 48 2 t47,Sxn 1 t48 t46]
abbrev C29_12 := Ro [Mv 20 t0,Mv 21 t9,Mv 22 t0,Mv 23 t3,Ca 24 57 [t22,t23],⟨(some 25),none,.e (.callv t21 [t24])⟩,Mv 26 t3,Bn 27 .sub t25 t26,Nc 28 t20,Fa 29 0 t28,Sxn 1 t29 t27]
abbrev C29_13 := Cd t41 C29_11 C29_12
abbrev C29_14 := Sq [0,3,6,9,41] C29_10 C29_13
abbrev C29_15 := Cd t30 C29_9 C29_14
abbrev C29_16 := Sq [0,3,6,9,19,30] C29_8 C29_15
abbrev C29_17 := Bk 0 C29_16
abbrev C29_18 := Sq [0,3,6,9,19] C29_7 C29_17
abbrev C29_19 := Ro [As 8 (kI 0)]
abbrev C29_20 := Sq [8] C29_19 .ret
abbrev C29_21 := Sq [] C29_18 C29_20
abbrev C29_22 := Sq [0,3,5,6,9] C29_6 C29_21
abbrev C29_23 := Sq [0,3,5,6] C29_5 C29_22
abbrev C29_24 := Sq [0,3,5,6] C29_0 C29_23
abbrev C29 := C29_24
abbrev C29r : List RV := [.t 8]
theorem C29ok : Okf Tryz.prog 29 Tryz.f29 C29 C29r := ⟨Tryz.func29, by kernel_rfl, by kernel_rfl, by kernel_rfl⟩

/-- mimesis/mimesisref18.Why -/
abbrev C30_0 := Ro [As 6 (kI 0)]
abbrev C30_1 := Ro [Mv 8 t0,Ca 9 58 [t8],Un 10 .not t9]
abbrev C30_2 := Ro [As 6 (kI 4)]
abbrev C30_3 := Sq [6] C30_2 .ret
abbrev C30_4 := Cd t10 C30_3 .skip
abbrev C30_5 := Sq [0,1,2,10] C30_1 C30_4
abbrev C30_6 := Ro [Mv 11 t1,Mv 12 t0,⟨(some 13),none,.e (.mks 1 [.int .u8 0] t12 t12)⟩,Ca 14 59 [t11,t13],As 7 t14]
abbrev C30_7 := Ro [Mv 15 t7,Bn 16 .neq t15 (kI 0)]
abbrev C30_8 := Ro [Mv 17 t7,As 6 t17]
abbrev C30_9 := Sq [6] C30_8 .ret
abbrev C30_10 := Cd t16 C30_9 .skip
abbrev C30_11 := Sq [2,7,16] C30_7 C30_10
abbrev C30_12 := Sq [2,7] C30_6 C30_11
abbrev C30_13 := Ro [Mv 18 t2,Ca 19 60 [t18],As 6 t19]
abbrev C30_14 := Sq [6] C30_13 .ret
abbrev C30_15 := Sq [2] C30_12 C30_14
abbrev C30_16 := Sq [0,1,2] C30_5 C30_15
abbrev C30_17 := Sq [0,1,2] C30_0 C30_16
abbrev C30 := C30_17
abbrev C30r : List RV := [.t 6]
theorem C30ok : Okf Tryz.prog 30 Tryz.f30 C30 C30r := ⟨Tryz.func30, by kernel_rfl, by kernel_rfl, by kernel_rfl⟩

/-- mimesis/mimesisref18.Legal -/
abbrev C31_0 := Ro [Br 1 t0,As 2 kF]
abbrev C31_1 := Dr [Fa 3 0 t1,Ld 4 none t3,Fa 5 0 t1,Ld 6 none t5,Ca 7 61 [(kI 768),t6],Bn 8 .eql t4 t7,Mv 9 t8,Fat 10 9 1 t1,Ldt 11 9 none t10,Fat 12 9 1 t1,Ldt 13 9 none t12,Cat 14 9 61 [(kI 772),t13],Bnt 15 9 .eql t11 t14,Pk 16 t9 t15 kF,Mv 17 t16,Fat 18 17 2 t1,Ldt 19 17 none t18,Fat 20 17 2 t1,Ldt 21 17 none t20,Cat 22 17 61 [(kI 773),t21],Bnt 23 17 .eql t19 t22,Pk 24 t17 t23 kF,Mv 25 t24,Fat 26 25 4 t1,Ldt 27 25 none t26,Fat 28 25 4 t1,Ldt 29 25 none t28,Cat 30 25 61 [(kI 833),t29],Bnt 31 25 .eql t27 t30,Pk 32 t25 t31 kF,As 2 t32] [[],[0],[],[2],[3],[1,4],[5,4],[6],[7,6],[6],[9,6],[10,6,6],[8,11,6],[6,12],[13,11],[14],[15,14],[14],[17,14],[18,14,14],[16,19,14],[14,20],[21,19],[22],[23,22],[22],[25,22],[26,22,22],[24,27,22],[22,28],[29,27,0,1,2,3,4,5,6,7,8,9,10,11,12,13,14,15,16,17,18,19,20,21,22,23,24,25,26,27,28,29]] [(0,[]),(1,[]),(2,[]),(3,[]),(4,[0,1]),(5,[]),(6,[]),(7,[]),(8,[]),(9,[]),(10,[]),(11,[7,8]),(12,[]),(13,[]),(14,[]),(15,[]),(16,[]),(17,[]),(18,[]),(19,[15,16]),(20,[]),(21,[]),(22,[]),(23,[]),(24,[]),(25,[]),(26,[]),(27,[23,24]),(28,[]),(29,[]),(30,[])]
abbrev C31_2 := Sq [2] C31_1 .ret
abbrev C31_3 := Sq [1] C31_0 C31_2
abbrev C31 := C31_3
abbrev C31r : List RV := [.t 2]
theorem C31ok : Okf Tryz.prog 31 Tryz.f31 C31 C31r := ⟨Tryz.func31, by kernel_rfl, by kernel_rfl, by kernel_rfl⟩

/-- mimesis/mimesisref23.Reckons -/
abbrev C32_0 := Ro [As 2 kF]
abbrev C32_1 := Ro [Mv 3 t0,Ca 4 62 [t3],Mv 5 t4,Mvf 6 5 t0,Caf 7 5 63 [t6],Pk 8 t5 kT t7,As 2 t8]
abbrev C32_2 := Sq [2] C32_1 .ret
abbrev C32_3 := Sq [0] C32_0 C32_2
abbrev C32 := C32_3
abbrev C32r : List RV := [.t 2]
theorem C32ok : Okf Tryz.prog 32 Tryz.f32 C32 C32r := ⟨Tryz.func32, by kernel_rfl, by kernel_rfl, by kernel_rfl⟩

/-- mimesis/mimesisref23.Value -/
abbrev C33_0 := Ro [Br 3 t0,As 6 kF]
abbrev C33_1 := Ro [Mv 7 t1,Bn 8 .geq t7 (kI 0),Mv 9 t8,Mvt 10 9 t1,Mvt 11 9 t2,Bnt 12 9 .lss t10 t11,Pk 13 t9 t12 kF,Mv 14 t13,Mvt 15 14 t1,Fat 16 14 1 t3,Ldt 17 14 none t16,Lnt 18 14 t17,Bnt 19 14 .lss t15 t18,Pk 20 t14 t19 kF,Mv 21 t20,Fat 22 21 1 t3,Ldt 23 21 none t22,Mvt 24 21 t1,Ixt 25 21 6 t23 t24,Fat 26 21 0 t25,Ldt 27 21 none t26,Bnt 28 21 .geq t27 (kI 1),Pk 29 t21 t28 kF,Mv 30 t29,Fat 31 30 1 t3,Ldt 32 30 none t31,Mvt 33 30 t1,Ixt 34 30 6 t32 t33,Fat 35 30 0 t34,Ldt 36 30 none t35,Bnt 37 30 .leq t36 (kI 4),Pk 38 t30 t37 kF,As 6 t38]
abbrev C33_2 := Sq [6] C33_1 .ret
abbrev C33_3 := Sq [1,2,3] C33_0 C33_2
abbrev C33 := C33_3
abbrev C33r : List RV := [.t 6]
theorem C33ok : Okf Tryz.prog 33 Tryz.f33 C33 C33r := ⟨Tryz.func33, by kernel_rfl, by kernel_rfl, by kernel_rfl⟩

/-- mimesis/mimesisref02.Loads -/
abbrev C34_0 := Ro [As 2 (kI 0)]
abbrev C34_1 := Ro [Mv 3 t0,Bn 4 .eql t3 (kI 11),Mv 5 t4,Mvf 6 5 t0,Bnf 7 5 .eql t6 (kI 14),Pk 8 t5 kT t7]
abbrev C34_2 := Ro [As 2 (kI 1)]
abbrev C34_3 := Sq [2] C34_2 .ret
abbrev C34_4 := Cd t8 C34_3 .skip
abbrev C34_5 := Sq [0,8] C34_1 C34_4
abbrev C34_6 := Ro [Mv 9 t0,Bn 10 .eql t9 (kI 12),Mv 11 t10,Mvf 12 11 t0,Bnf 13 11 .eql t12 (kI 15),Pk 14 t11 kT t13]
abbrev C34_7 := Ro [As 2 (kI 2)]
abbrev C34_8 := Sq [2] C34_7 .ret
abbrev C34_9 := Cd t14 C34_8 .skip
abbrev C34_10 := Sq [0,14] C34_6 C34_9
abbrev C34_11 := Ro [Mv 15 t0,Bn 16 .eql t15 (kI 13)]
abbrev C34_12 := Ro [As 2 (kI 4)]
abbrev C34_13 := Sq [2] C34_12 .ret
abbrev C34_14 := Cd t16 C34_13 .skip
abbrev C34_15 := Sq [16] C34_11 C34_14
abbrev C34_16 := Ro [As 2 (kI 0)]
abbrev C34_17 := Sq [2] C34_16 .ret
abbrev C34_18 := Sq [] C34_15 C34_17
abbrev C34_19 := Sq [0] C34_10 C34_18
abbrev C34_20 := Sq [0] C34_5 C34_19
abbrev C34_21 := Sq [0] C34_0 C34_20
abbrev C34 := C34_21
abbrev C34r : List RV := [.t 2]
theorem C34ok : Okf Tryz.prog 34 Tryz.f34 C34 C34r := ⟨Tryz.func34, by kernel_rfl, by kernel_rfl, by kernel_rfl⟩

/-- mimesis/mimesisref02.Stores -/
abbrev C35_0 := Ro [As 2 (kI 0)]
abbrev C35_1 := Ro [Mv 3 t0,Bn 4 .eql t3 (kI 16)]
abbrev C35_2 := Ro [As 2 (kI 1)]
abbrev C35_3 := Sq [2] C35_2 .ret
abbrev C35_4 := Cd t4 C35_3 .skip
abbrev C35_5 := Sq [0,4] C35_1 C35_4
abbrev C35_6 := Ro [Mv 5 t0,Bn 6 .eql t5 (kI 17)]
abbrev C35_7 := Ro [As 2 (kI 2)]
abbrev C35_8 := Sq [2] C35_7 .ret
abbrev C35_9 := Cd t6 C35_8 .skip
abbrev C35_10 := Sq [0,6] C35_6 C35_9
abbrev C35_11 := Ro [Mv 7 t0,Bn 8 .eql t7 (kI 18)]
abbrev C35_12 := Ro [As 2 (kI 4)]
abbrev C35_13 := Sq [2] C35_12 .ret
abbrev C35_14 := Cd t8 C35_13 .skip
abbrev C35_15 := Sq [8] C35_11 C35_14
abbrev C35_16 := Ro [As 2 (kI 0)]
abbrev C35_17 := Sq [2] C35_16 .ret
abbrev C35_18 := Sq [] C35_15 C35_17
abbrev C35_19 := Sq [0] C35_10 C35_18
abbrev C35_20 := Sq [0] C35_5 C35_19
abbrev C35_21 := Sq [0] C35_0 C35_20
abbrev C35 := C35_21
abbrev C35r : List RV := [.t 2]
theorem C35ok : Okf Tryz.prog 35 Tryz.f35 C35 C35r := ⟨Tryz.func35, by kernel_rfl, by kernel_rfl, by kernel_rfl⟩

/-- mimesis/ram.New -/
abbrev C36_0 := Ro [As 2 kP,As 3 (kI 0)]
abbrev C36_1 := Ro [Mv 5 t0,Bn 6 .lss t5 (kI 64),Mv 7 t6,Mvf 8 7 t0,Bnf 9 7 .gtr t8 (kI 65536),Pk 10 t7 kT t9,Mv 11 t10,Mvf 12 11 t0,Bnf 13 11 .rem t12 (kI 64),Bnf 14 11 .neq t13 (kI 0),Pk 15 t11 kT t14]
abbrev C36_2 := Ro [As 2 kP,As 3 (kI 4)]
abbrev C36_3 := Sq [2,3] C36_2 .ret
abbrev C36_4 := Cd t15 C36_3 .skip
abbrev C36_5 := Sq [0,15] C36_1 C36_4
abbrev C36_6 := Ro [Mv 16 t0,Bn 17 .quo t16 (kI 64),As 4 t17]
abbrev C36_7 : ACode := .dregt [Mv 18 t0,⟨(some 19),none,.e (.mks 1 [.int .u8 0] t18 t18)⟩,Mv 20 t4,⟨(some 21),none,.e (.mks 1 [.bool false] t20 t20)⟩,Mv 22 t4,⟨(some 23),none,.e (.mks 8 [.int .u64 0] t22 t22)⟩,⟨(some 24),none,.r (.bld [.nils,.nils,.nils] [(0,1,t19),(1,1,t21),(2,1,t23)])⟩,⟨(some 25),none,.e (.box t24)⟩,As 2 t25,As 3 (kI 0)] [[],[0,0],[],[2,2],[],[4,4],[1,3,5],[6],[7,0,1,2,3,4,5,6,7],[8,0,1,2,3,4,5,6,7,8]] (.r 0 (.r 2 (.r 4 (.e 1 [2,4] (.e 3 [0,4] (.e 5 [0,2] (.r 6 (.e 7 [] (.e 8 [] (.e 9 [] .nil .nil) .nil) .nil)) .nil) (.e 5 [0,2] (.e 3 [0,4] (.r 6 (.e 7 [] (.e 8 [] (.e 9 [] .nil .nil) .nil) .nil)) .nil) .nil)) (.e 3 [0,4] (.e 1 [2,4] (.e 5 [0,2] (.r 6 (.e 7 [] (.e 8 [] (.e 9 [] .nil .nil) .nil) .nil)) .nil) (.e 5 [0,2] (.e 1 [2,4] (.r 6 (.e 7 [] (.e 8 [] (.e 9 [] .nil .nil) .nil) .nil)) .nil) .nil)) (.e 5 [0,2] (.e 1 [2,4] (.e 3 [0,4] (.r 6 (.e 7 [] (.e 8 [] (.e 9 [] .nil .nil) .nil) .nil)) .nil) (.e 3 [0,4] (.e 1 [2,4] (.r 6 (.e 7 [] (.e 8 [] (.e 9 [] .nil .nil) .nil) .nil)) .nil) .nil)) .nil))))))
abbrev C36_8 := Sq [2,3] C36_7 .ret
abbrev C36_9 := Sq [0,4] C36_6 C36_8
abbrev C36_10 := Sq [0] C36_5 C36_9
abbrev C36_11 := Sq [0] C36_0 C36_10
abbrev C36 := C36_11
abbrev C36r : List RV := [.t 2,.t 3]
theorem C36ok : Okf Tryz.prog 36 Tryz.f36 C36 C36r := ⟨Tryz.func36, by kernel_rfl, by kernel_rfl, by kernel_rfl⟩
end Go.Ab
end
section
/- The code of some functions, with what their types tell written out; each is what the translation gives (kernel_rfl). Printed by mk.py out of the translation. -/
namespace Go.Ab
open Go.Proofs Go.Sc
set_option maxRecDepth 100000
/-- mimesis/image.Lay -/
abbrev C37_0 := Ro [As 4 (kI 0)]
abbrev C37_1 := Ro [Mv 8 t0,Ep 9 false t8 kP]
abbrev C37_2 := Ro [As 4 (kI 2)]
abbrev C37_3 := Sq [4] C37_2 .ret
abbrev C37_4 := Cd t9 C37_3 .skip
abbrev C37_5 := Sq [0,1,9] C37_1 C37_4
abbrev C37_6 := Ro [Mv 10 t1,Mv 11 t0,Ca 12 65 [t11],Ca 13 64 [t10,t12],As 5 t13]
abbrev C37_7 := Ro [Mv 14 t5,Bn 15 .neq t14 (kI 0)]
abbrev C37_8 := Ro [Mv 16 t5,As 4 t16]
abbrev C37_9 := Sq [4] C37_8 .ret
abbrev C37_10 := Cd t15 C37_9 .skip
abbrev C37_11 := Sq [0,1,5,15] C37_7 C37_10
abbrev C37_12 := Sq [0,1,5] C37_6 C37_11
abbrev C37_13 := Ro [Mv 17 t1,Ln 18 t17,Mv 19 (kI 0)]
abbrev C37_14 := Ro [Bn 20 .lss t19 t18]
abbrev C37_15 := Cd t20 .skip (.exit 0)
abbrev C37_16 := Ro [Ix 21 2 t17 t19,Ld 22 (some 2) t21,Al 7 [.int .u32 0,.nils],Sxn 2 t7 t22]
abbrev C37_17 := Ro [Mv 23 t0,Fa 24 0 t7,Ld 25 none t24,Fa 26 1 t7,Ld 27 none t26,Ca 28 66 [t23,t25,t27]]
abbrev C37_18 : ACode := .fz 7 C37_17
abbrev C37_19 := Sq [0,7,17,18,19] C37_16 C37_18
abbrev C37_20 := Bk 1 C37_19
abbrev C37_21 := Ro [Bn 29 .add t19 (kI 1),Mv 19 t29]
abbrev C37_22 := Sq [0,17,18,19] C37_20 C37_21
abbrev C37_23 := Sq [0,17,18,19] C37_15 C37_22
abbrev C37_24 := Sq [0,17,18,19,20] C37_14 C37_23
abbrev C37_25 : ACode := .loop C37_24
abbrev C37_26 := Bk 0 C37_25
abbrev C37_27 := Sq [0,17,18,19] C37_13 C37_26
abbrev C37_28 := Ro [As 4 (kI 0)]
abbrev C37_29 := Sq [4] C37_28 .ret
abbrev C37_30 := Sq [] C37_27 C37_29
abbrev C37_31 := Sq [0,1] C37_12 C37_30
abbrev C37_32 := Sq [0,1] C37_5 C37_31
abbrev C37_33 := Sq [0,1] C37_0 C37_32
abbrev C37 := C37_33
abbrev C37r : List RV := [.t 4]
theorem C37ok : Okf Tryz.prog 37 Tryz.f37 C37 C37r := ⟨Tryz.func37, by kernel_rfl, by kernel_rfl, by kernel_rfl⟩

/-- mimesis/console.New -/
abbrev C38_0 := Ro [As 2 kP,As 3 (kI 0)]
abbrev C38_1 := Ro [Mv 5 t0,Ln 6 t5,Bn 7 .gtr t6 (kI 256)]
abbrev C38_2 := Ro [As 2 kP,As 3 (kI 3)]
abbrev C38_3 := Sq [2,3] C38_2 .ret
abbrev C38_4 := Cd t7 C38_3 .skip
abbrev C38_5 := Sq [0,7] C38_1 C38_4
abbrev C38_6 := Ro [Mv 8 t0,Ln 9 t8,Mv 10 (kI 0)]
abbrev C38_7 := Ro [Bn 11 .lss t10 t9]
abbrev C38_8 := Cd t11 .skip (.exit 0)
abbrev C38_9 := Ro [Mv 12 t10,As 4 t12]
abbrev C38_10 := Dr [Mv 13 t4,Bn 14 .gtr t13 (kI 0),Mv 15 t14,Mvt 16 15 t0,Mvt 17 15 t4,Ixt 18 15 2 t16 t17,Fat 19 15 0 t18,Ldt 20 15 none t19,Mvt 21 15 t0,Mvt 22 15 t4,Bnt 23 15 .sub t22 (kI 1),Ixt 24 15 2 t21 t23,Fat 25 15 0 t24,Ldt 26 15 none t25,Bnt 27 15 .lss t20 t26,Pk 28 t15 t27 kF] [[],[0],[1],[2],[2],[3,4,2],[5,2],[6,2],[2],[2],[9,2],[8,10,2],[11,2],[12,2],[7,13,2],[2,14]] [(0,[]),(1,[]),(2,[]),(3,[]),(4,[]),(5,[]),(6,[]),(7,[]),(8,[]),(9,[]),(10,[]),(11,[]),(12,[]),(13,[]),(14,[]),(15,[])]
abbrev C38_11 := Ro [As 2 kP,As 3 (kI 1)]
abbrev C38_12 := Sq [2,3] C38_11 .ret
abbrev C38_13 := Cd t28 C38_12 .skip
abbrev C38_14 := Sq [0,9,10,28] C38_10 C38_13
abbrev C38_15 := Sq [0,4,9,10] C38_9 C38_14
abbrev C38_16 := Bk 1 C38_15
abbrev C38_17 := Ro [Bn 29 .add t10 (kI 1),Mv 10 t29]
abbrev C38_18 := Sq [0,9,10] C38_16 C38_17
abbrev C38_19 := Sq [0,9,10] C38_8 C38_18
abbrev C38_20 := Sq [0,9,10,11] C38_7 C38_19
abbrev C38_21 : ACode := .loop C38_20
abbrev C38_22 := Bk 0 C38_21
abbrev C38_23 := Sq [0,9,10] C38_6 C38_22
abbrev C38_24 := Ro [Mv 30 t0,Ca 31 67 [t30],Ca 32 68 [],⟨(some 33),none,.r (.bld [.nils,zi,.nilp,zb,.nils] [(0,1,t31),(2,1,t32)])⟩,⟨(some 34),none,.e (.box t33)⟩,As 2 t34,As 3 (kI 0)]
abbrev C38_25 := Sq [2,3] C38_24 .ret
abbrev C38_26 := Sq [0] C38_23 C38_25
abbrev C38_27 := Sq [0] C38_5 C38_26
abbrev C38_28 := Sq [0] C38_0 C38_27
abbrev C38 := C38_28
abbrev C38r : List RV := [.t 2,.t 3]
theorem C38ok : Okf Tryz.prog 38 Tryz.f38 C38 C38r := ⟨Tryz.func38, by kernel_rfl, by kernel_rfl, by kernel_rfl⟩

/-- mimesis/bus.New -/
abbrev C39_0 := Ro [As 6 kP,As 7 (kI 0)]
abbrev C39_1 := Ro [Mv 8 t0,Ep 9 false t8 kP,Mv 10 t9,Mvf 11 10 t1,Epf 12 10 false t11 kP,Pk 13 t10 kT t12,Mv 14 t13,Mvf 15 14 t2,Epf 16 14 false t15 kP,Pk 17 t14 kT t16]
abbrev C39_2 := Ro [As 6 kP,As 7 (kI 2)]
abbrev C39_3 := Sq [6,7] C39_2 .ret
abbrev C39_4 := Cd t17 C39_3 .skip
abbrev C39_5 := Sq [0,1,2,17] C39_1 C39_4
abbrev C39_6 := Ro [Mv 18 t0,Mv 19 t1,Mv 20 t2,⟨(some 21),none,.r (.bld [.nilp,.nilp,.nilp,zb,z4] [(0,1,t18),(1,1,t19),(2,1,t20)])⟩,⟨(some 22),none,.e (.box t21)⟩,As 6 t22,As 7 (kI 0)]
abbrev C39_7 := Sq [6,7] C39_6 .ret
abbrev C39_8 := Sq [0,1,2] C39_5 C39_7
abbrev C39_9 := Sq [0,1,2] C39_0 C39_8
abbrev C39 := C39_9
abbrev C39r : List RV := [.t 6,.t 7]
theorem C39ok : Okf Tryz.prog 39 Tryz.f39 C39 C39r := ⟨Tryz.func39, by kernel_rfl, by kernel_rfl, by kernel_rfl⟩

/-- mimesis/timer.New -/
abbrev C40_0 := Ro [As 0 kP]
abbrev C40_1 := Ro [⟨(some 1),none,.r (.bld [.int .u64 0,.int .u64 0,.bool false] [(1,1,(kL 18446744073709551615))])⟩,⟨(some 2),none,.e (.box t1)⟩,As 0 t2]
abbrev C40_2 := Sq [0] C40_1 .ret
abbrev C40_3 := Sq [] C40_0 C40_2
abbrev C40 := C40_3
abbrev C40r : List RV := [.t 0]
theorem C40ok : Okf Tryz.prog 40 Tryz.f40 C40 C40r := ⟨Tryz.func40, by kernel_rfl, by kernel_rfl, by kernel_rfl⟩

/-- mimesis/csr.New -/
abbrev C41_0 := Ro [Al 0 [z4,z4,z4,z4,z4,z4,z4,z8,z8]]
abbrev C41_1 := Ro [⟨(some 1),none,.r (.bld [z4,z4,z4,z4,z4,z4,z4] [(0,1,(kU 6144))])⟩,⟨(some 2),none,.r (.bld [z4,z4,z4,z4,z4,z4,z4,z8,z8] [(0,7,t1)])⟩,Sxn 9 t0 t2]
abbrev C41_2 := Sq [0] C41_1 .ret
abbrev C41_3 := Sq [0] C41_0 C41_2
abbrev C41 := C41_3
abbrev C41r : List RV := [.c 0 (some 9)]
theorem C41ok : Okf Tryz.prog 41 Tryz.f41 C41 C41r := ⟨Tryz.func41, by kernel_rfl, by kernel_rfl, by kernel_rfl⟩

/-- (*mimesis/cpu.Cpu).has -/
abbrev C42_0 := Ro [As 4 kF]
abbrev C42_1 := Ro [Mv 5 t0,Ep 6 true t5 kP,Mv 7 t6,Mvt 8 7 t1,Bnt 9 7 .geq t8 (kI 0),Pk 10 t7 t9 kF,Mv 11 t10,Mvt 12 11 t1,Bnt 13 11 .lss t12 (kI 32),Pk 14 t11 t13 kF,As 4 t14]
abbrev C42_2 := Sq [4] C42_1 .ret
abbrev C42_3 := Sq [0,1] C42_0 C42_2
abbrev C42 := C42_3
abbrev C42r : List RV := [.t 4]
theorem C42ok : Okf Tryz.prog 42 Tryz.f42 C42 C42r := ⟨Tryz.func42, by kernel_rfl, by kernel_rfl, by kernel_rfl⟩

/-- mimesis/ir.Check -/
abbrev C43_0 := Ro [As 2 (kI 0)]
abbrev C43_1 := Ro [Mv 4 t0,Ep 5 false t4 kP,As 3 t5]
abbrev C43_2 := Ro [As 2 (kI 1)]
abbrev C43_3 := Sq [2] C43_2 .ret
abbrev C43_4 := Ro [Mv 7 t0,Nc 8 t7,Fa 9 0 t8,Ld 10 none t9,Ln 11 t10,Bn 12 .gtr t11 (kI 32),As 6 t12]
abbrev C43_5 := Ro [Mv 13 t0,Nc 14 t13,Fa 15 1 t14,Ld 16 none t15,Ln 17 t16,Bn 18 .gtr t17 (kI 512),As 6 t18]
abbrev C43_6 := Ro [Mv 19 t0,Nc 20 t19,Fa 21 2 t20,Ld 22 none t21,Ln 23 t22,Bn 24 .gtr t23 (kI 128),As 6 t24]
abbrev C43_7 := Cd t6 .skip C43_6
abbrev C43_8 := Sq [0,6] C43_5 C43_7
abbrev C43_9 := Cd t6 .skip C43_8
abbrev C43_10 := Sq [0,6] C43_4 C43_9
abbrev C43_11 := Ro [As 2 (kI 3)]
abbrev C43_12 := Sq [2] C43_11 .ret
abbrev C43_13 := Ro [Mv 26 t0,⟨(some 27),none,.r (.bld [.nilp] [(0,1,t26)])⟩,Ca 28 69 [t27],Un 29 .not t28,As 25 t29]
abbrev C43_14 := Ro [As 2 (kI 1)]
abbrev C43_15 := Sq [2] C43_14 .ret
abbrev C43_16 := Cd t25 C43_15 .skip
abbrev C43_17 := Sq [25] C43_13 C43_16
abbrev C43_18 := Cd t6 C43_12 C43_17
abbrev C43_19 := Sq [0,6] C43_10 C43_18
abbrev C43_20 := Cd t3 C43_3 C43_19
abbrev C43_21 := Sq [0,3] C43_1 C43_20
abbrev C43_22 := Bk 0 C43_21
abbrev C43_23 := Ro [As 2 (kI 0)]
abbrev C43_24 := Sq [2] C43_23 .ret
abbrev C43_25 := Sq [] C43_22 C43_24
abbrev C43_26 := Sq [0] C43_0 C43_25
abbrev C43 := C43_26
abbrev C43r : List RV := [.t 2]
theorem C43ok : Okf Tryz.prog 43 Tryz.f43 C43 C43r := ⟨Tryz.func43, by kernel_rfl, by kernel_rfl, by kernel_rfl⟩

/-- (*mimesis/bus.Bus).Off -/
abbrev C44_0 := Ro [As 2 (kU 0),As 3 kF]
abbrev C44_1 := Ro [Mv 4 t0,Ep 5 false t4 kP]
abbrev C44_2 := Ro [As 2 (kU 0),As 3 kF]
abbrev C44_3 := Sq [2,3] C44_2 .ret
abbrev C44_4 := Cd t5 C44_3 .skip
abbrev C44_5 := Sq [0,5] C44_1 C44_4
abbrev C44_6 := Dr [Mv 6 t0,Nc 7 t6,Fa 8 4 t7,Ld 9 none t8,Mv 10 t0,Nc 11 t10,Fa 12 3 t11,Ld 13 none t12,As 2 t9,As 3 t13] [[],[0],[1],[2],[],[4],[5],[6],[3,0,1,2,3],[7,8,0,1,2,3,4,5,6,7,8]] [(0,[]),(1,[]),(2,[]),(3,[]),(4,[]),(5,[]),(6,[]),(7,[]),(8,[4,5,6,7]),(9,[])]
abbrev C44_7 := Sq [2,3] C44_6 .ret
abbrev C44_8 := Sq [0] C44_5 C44_7
abbrev C44_9 := Sq [0] C44_0 C44_8
abbrev C44 := C44_9
abbrev C44r : List RV := [.t 2,.t 3]
theorem C44ok : Okf Tryz.prog 44 Tryz.f44 C44 C44r := ⟨Tryz.func44, by kernel_rfl, by kernel_rfl, by kernel_rfl⟩

/-- mimesis/step.Quiet -/
abbrev C45_0 := Ro [As 2 (kL 0)]
abbrev C45_1 := Ro [Mv 8 t0,Ep 9 false t8 kP]
abbrev C45_2 := Ro [As 2 (kL 0)]
abbrev C45_3 := Sq [2] C45_2 .ret
abbrev C45_4 := Cd t9 C45_3 .skip
abbrev C45_5 := Sq [0,9] C45_1 C45_4
abbrev C45_6 := Ro [Mv 10 t0,Nc 11 t10,Fa 12 33 t11,Fa 13 0 t12,Ld 14 (some 7) t13,Al 3 [z4,z4,z4,z4,z4,z4,z4],Sxn 7 t3 t14]
abbrev C45_7 := Ro [Fa 15 0 t3,Ld 16 none t15,Bn 17 .and t16 (kU 8),Bn 18 .eql t17 (kU 0)]
abbrev C45_8 := Ro [As 2 (kL 18446744073709551615)]
abbrev C45_9 := Sq [2] C45_8 .ret
abbrev C45_10 := Cd t18 C45_9 .skip
abbrev C45_11 := Sq [0,3,18] C45_7 C45_10
abbrev C45_12 := Dr [Mv 19 t0,Ca 20 10 [t19],Mv 21 t0,Nc 22 t21,Fa 23 42 t22,Ld 24 none t23,Ca 25 70 [t20,t24],As 4 t25] [[],[0],[],[2],[3],[4],[1,5,1],[6,6,0,1,2,3,4,5,6]] [(0,[]),(2,[]),(3,[]),(4,[]),(5,[]),(1,[2,3,4,5]),(6,[]),(7,[])]
abbrev C45_13 := Ro [As 5 (kL 18446744073709551615)]
abbrev C45_14 := Ro [Mv 27 t0,Ca 28 10 [t27],Ca 29 71 [t28],Ca 30 72 [t29],Mv 26 t30,Ex 31 0 t26,Ex 32 1 t26,As 6 t31,As 7 t32]
abbrev C45_15 := Ro [Mv 33 t7,Mv 34 t33,Fat 35 34 1 t3,Ldt 36 34 none t35,Bnt 37 34 .and t36 (kU 2048),Bnt 38 34 .neq t37 (kU 0),Pk 39 t34 t38 kF]
abbrev C45_16 := Ro [Mv 40 t6,Mv 41 t6,Mv 42 t0,Nc 43 t42,Fa 44 42 t43,Ld 45 none t44,⟨(some 46),none,.r (.mm false t41 t45)⟩,Bn 47 .sub t40 t46,As 5 t47]
abbrev C45_17 := Cd t39 C45_16 .skip
abbrev C45_18 := Sq [0,3,4,5,6,39] C45_15 C45_17
abbrev C45_19 := Sq [0,3,4,5,6,7] C45_14 C45_18
abbrev C45_20 := Ro [Fa 48 1 t3,Ld 49 none t48,Bn 50 .and t49 (kU 128),Bn 51 .neq t50 (kU 0)]
abbrev C45_21 := Dr [Mv 52 t5,Mv 53 t0,Ca 54 10 [t53],Ca 55 23 [t54],Mv 56 t0,Nc 57 t56,Fa 58 42 t57,Ld 59 none t58,Ca 60 73 [t55,t59],⟨(some 61),none,.r (.mm false t52 t60)⟩,As 5 t61] [[],[],[1],[2,2],[],[4],[5],[6],[3,7,3],[0,8],[9,8,0,1,2,3,4,5,6,7,8,9]] [(0,[]),(1,[]),(4,[]),(5,[]),(6,[]),(7,[]),(2,[0,4,5,6,7]),(3,[0,4,5,6,7]),(8,[0]),(9,[]),(10,[])]
abbrev C45_22 := Cd t51 C45_21 .skip
abbrev C45_23 := Sq [0,3,4,5,51] C45_20 C45_22
abbrev C45_24 := Ro [Ld 62 (some 7) t3,Mv 63 t4,Ca 64 74 [t62,t63]]
abbrev C45_25 := Ro [As 5 (kL 0)]
abbrev C45_26 := Cd t64 C45_25 .skip
abbrev C45_27 := Sq [5,64] C45_24 C45_26
abbrev C45_28 := Ro [Mv 65 t5,As 2 t65]
abbrev C45_29 := Sq [2] C45_28 .ret
abbrev C45_30 := Sq [5] C45_27 C45_29
abbrev C45_31 := Sq [3,4,5] C45_23 C45_30
abbrev C45_32 := Sq [0,3,4,5] C45_19 C45_31
abbrev C45_33 := Sq [0,3,4,5] C45_13 C45_32
abbrev C45_34 := Sq [0,3,4] C45_12 C45_33
abbrev C45_35 := Sq [0,3] C45_11 C45_34
abbrev C45_36 : ACode := .fz 3 C45_35
abbrev C45_37 := Sq [0,3] C45_6 C45_36
abbrev C45_38 := Sq [0] C45_5 C45_37
abbrev C45_39 := Sq [0] C45_0 C45_38
abbrev C45 := C45_39
abbrev C45r : List RV := [.t 2]
theorem C45ok : Okf Tryz.prog 45 Tryz.f45 C45 C45r := ⟨Tryz.func45, by kernel_rfl, by kernel_rfl, by kernel_rfl⟩

/-- (*mimesis/eval.frame).op -/
abbrev C46_0 := Ro [Br 2 t0,Br 3 t1,As 4 (kI 0)]
abbrev C46_1 := Ro [As 5 (kU 0),As 6 (kI (-1))]
abbrev C46_2 := Ro [⟨(some 10),none,.r (.mkf 75 [] [t2])⟩,As 7 t10]
abbrev C46_3 := Ro [Fa 11 0 t3,Ld 12 none t11]
abbrev C46_4 := Ro [Bn 16 .eql t12 (kI 1),As 15 t16]
abbrev C46_5 := Dr [Ld 17 none t2,Fa 18 3 t3,Ld 19 none t18,Nc 20 t17,Fa 21 1 t20,⟨(some 22),none,.r (.ixa 32 1 t21 t19)⟩,Ld 23 none t22,As 5 t23] [[],[],[1],[0],[3],[4,2],[5],[6,0,1,2,3,4,5,6]] [(0,[]),(1,[]),(2,[]),(3,[]),(4,[]),(5,[]),(6,[]),(7,[])]
abbrev C46_6 := Ro [Bn 25 .eql t12 (kI 4),As 24 t25]
abbrev C46_7 := Ro [Ld 27 none t2,Ld 28 (some 6) t3,Ca 29 76 [t27,t28],Mv 26 t29,Ex 30 0 t26,Ex 31 1 t26,As 5 t30,As 6 t31]
abbrev C46_8 := Ro [Bn 33 .eql t12 (kI 5),As 32 t33]
abbrev C46_9 := Ro [Ld 34 none t2,Ld 35 (some 6) t3,Ca 36 77 [t34,t35],As 6 t36]
abbrev C46_10 := Ro [Bn 38 .eql t12 (kI 6),As 37 t38]
abbrev C46_11 := Dr [Fa 40 3 t3,Ld 41 none t40,Cv 42 .i64 t41,Mv 43 t7,Fa 44 1 t3,Ld 45 none t44,⟨(some 46),none,.e (.callv t43 [t45])⟩,Mv 47 t7,Fa 48 2 t3,Ld 49 none t48,⟨(some 50),none,.e (.callv t47 [t49])⟩,Ca 51 78 [t42,t46,t50],Mv 39 t51,Ex 52 0 t39,Ex 53 1 t39,As 8 t52,As 9 t53] [[],[0],[1],[],[],[4],[3,5],[],[],[8],[7,9,6],[2,6,10,10],[11],[12],[12],[13,11,0,1,2,3,4,5,6,7,8,9,10,11,12,13],[14,15,0,1,2,3,4,5,6,7,8,9,10,11,12,13,14,15]] [(0,[]),(1,[]),(2,[]),(3,[]),(4,[]),(5,[]),(7,[]),(8,[]),(9,[]),(6,[0,1,2,7,8,9]),(10,[0,1,2]),(11,[]),(12,[]),(13,[]),(14,[]),(15,[14]),(16,[])]
abbrev C46_12 := Ro [Mv 54 t8,Un 55 .not t54]
abbrev C46_13 := Ro [Fa 56 4 t3,Ld 57 none t56,As 6 t57]
abbrev C46_14 := Cd t55 C46_13 .skip
abbrev C46_15 := Sq [2,3,5,6,55] C46_12 C46_14
abbrev C46_16 := Sq [2,3,5,6,8] C46_11 C46_15
abbrev C46_17 := Ro [Bn 59 .eql t12 (kI 3),As 58 t59]
abbrev C46_18 := Dr [Ld 61 (some 6) t3,Mv 62 t7,Fa 63 1 t3,Ld 64 none t63,⟨(some 65),none,.e (.callv t62 [t64])⟩,Mv 66 t7,Fa 67 2 t3,Ld 68 none t67,⟨(some 69),none,.e (.callv t66 [t68])⟩,Ca 70 79 [t61,t65,t69],Mv 60 t70,Ex 71 0 t60,Ex 72 1 t60,As 5 t71] [[],[],[],[2],[1,3],[],[],[6],[5,7,4],[0,4,8,8],[9],[10],[10],[11,9,0,1,2,3,4,5,6,7,8,9,10,11]] [(0,[]),(1,[]),(2,[]),(3,[]),(5,[]),(6,[]),(7,[]),(4,[0,5,6,7]),(8,[0]),(9,[]),(10,[]),(11,[]),(12,[]),(13,[12])]
abbrev C46_19 := Ro [Fa 13 3 t3,Ld 14 none t13,As 5 t14]
abbrev C46_20 := Cd t58 C46_18 C46_19
abbrev C46_21 := Sq [2,3,6,7,58] C46_17 C46_20
abbrev C46_22 := Cd t37 C46_16 C46_21
abbrev C46_23 := Sq [2,3,5,6,7,12,37] C46_10 C46_22
abbrev C46_24 := Cd t32 C46_9 C46_23
abbrev C46_25 := Sq [2,3,5,6,7,12,32] C46_8 C46_24
abbrev C46_26 := Cd t24 C46_7 C46_25
abbrev C46_27 := Sq [2,3,5,6,7,12,24] C46_6 C46_26
abbrev C46_28 := Cd t15 C46_5 C46_27
abbrev C46_29 := Sq [2,3,5,6,7,12,15] C46_4 C46_28
abbrev C46_30 := Bk 0 C46_29
abbrev C46_31 := Sq [2,3,5,6,7,12] C46_3 C46_30
abbrev C46_32 := Dr [Ld 73 none t2,Ld 74 none t2,Nc 75 t74,Fa 76 34 t75,Ld 77 none t76,Mv 78 t5,⟨(some 79),none,.e (.bsr 1 [.int .u32 0] [(0,1,t78)])⟩,Ap 80 1 4 t77 t79,Nc 81 t73,Fa 82 34 t81,Sxn 1 t82 t80] [[],[],[1],[2],[3],[],[5],[4,6],[0,0,1,2,3,4,5,6,7],[8,0,1,2,3,4,5,6,7],[9,7,7,0,1,2,3,4,5,6,7]] [(0,[]),(1,[]),(2,[]),(3,[]),(4,[]),(5,[]),(6,[0,1,2,3,4]),(7,[0]),(8,[]),(9,[]),(10,[])]
abbrev C46_33 := Ro [Mv 83 t6,As 4 t83]
abbrev C46_34 := Sq [4] C46_33 .ret
abbrev C46_35 := Sq [6] C46_32 C46_34
abbrev C46_36 := Sq [2,5,6] C46_31 C46_35
abbrev C46_37 := Sq [2,3,5,6,7] C46_2 C46_36
abbrev C46_38 := Sq [2,3,5,6] C46_1 C46_37
abbrev C46_39 := Sq [2,3] C46_0 C46_38
abbrev C46 := C46_39
abbrev C46r : List RV := [.t 4]
theorem C46ok : Okf Tryz.prog 46 Tryz.f46 C46 C46r := ⟨Tryz.func46, by kernel_rfl, by kernel_rfl, by kernel_rfl⟩

/-- (*mimesis/eval.frame).leave -/
abbrev C47_0 := Ro [Al 4 [z4,z4,z4,z4,z4,z4,z4,z4,z4,z4,z4,z4,z4,z4,z4,z4,z4,z4,z4,z4,z4,z4,z4,z4,z4,z4,z4,z4,z4,z4,z4,z4,z4,zi,zi,zi]]
abbrev C47_1 := Ro [Mv 9 t0,Nc 10 t9,Fa 11 0 t10,Ld 12 none t11,Nc 13 t12,Fa 14 2 t13,Ld 15 none t14,Mv 16 t1,Ix 17 5 t15 t16,Ld 18 (some 5) t17,Al 5 [zi,z4,zi,zi,.nils],Sxn 5 t5 t18]
abbrev C47_2 := Dr [Mv 19 t0,Nc 20 t19,Fa 21 1 t20,Ld 22 (some 32) t21,Fa 23 1 t5,Ld 24 none t23,Fa 25 0 t5,Ld 26 none t25,Fa 27 3 t5,Ld 28 none t27,Mv 29 t1,⟨(some 30),none,.r (.bld [z4,z4,z4,z4,z4,z4,z4,z4,z4,z4,z4,z4,z4,z4,z4,z4,z4,z4,z4,z4,z4,z4,z4,z4,z4,z4,z4,z4,z4,z4,z4,z4,z4,zi,zi,zi] [(0,32,t22),(32,1,t24),(33,1,t26),(34,1,t28),(35,1,t29)])⟩,Al 6 [z4,z4,z4,z4,z4,z4,z4,z4,z4,z4,z4,z4,z4,z4,z4,z4,z4,z4,z4,z4,z4,z4,z4,z4,z4,z4,z4,z4,z4,z4,z4,z4,z4,zi,zi,zi],Sxn 36 t6 t30] [[],[0],[1],[2],[],[4],[],[6],[],[8],[],[3,5,7,9,10],[],[12,11,0,1,2,3,4,5,6,7,8,9,10,11,12]] [(0,[]),(1,[]),(2,[]),(3,[]),(4,[]),(5,[]),(6,[]),(7,[]),(8,[]),(9,[]),(10,[]),(11,[]),(12,[0,1,2,3,4,5,6,7,8,9,10,11]),(13,[])]
abbrev C47_3 := Ro [Fa 31 4 t5,Ld 32 none t31,Ln 33 t32,Mv 34 (kI 0)]
abbrev C47_4 := Ro [Bn 35 .lss t34 t33]
abbrev C47_5 := Cd t35 .skip (.exit 0)
abbrev C47_6 := Ro [Ix 36 2 t32 t34,Ld 37 (some 2) t36,Al 8 [.int .i64 0,.int .i64 0],Sxn 2 t8 t37]
abbrev C47_7 := Dr [Fa 38 0 t8,Ld 39 none t38,Mv 40 t0,Nc 41 t40,Fa 42 34 t41,Ld 43 none t42,Fa 44 1 t8,Ld 45 none t44,Ix 46 1 t43 t45,Ld 47 none t46,Fa 48 0 t6,⟨(some 49),none,.r (.ixa 32 1 t48 t39)⟩,Sxn 1 t49 t47] [[],[0],[],[2],[3],[4],[],[6],[5,7],[8],[],[10,1,0,1,2,3,4,5,6,7,8,9],[11,9,0,1,2,3,4,5,6,7,8,9]] [(0,[]),(1,[]),(2,[]),(3,[]),(4,[]),(5,[]),(6,[]),(7,[]),(8,[]),(9,[]),(10,[]),(11,[]),(12,[])]
abbrev C47_8 : ACode := .fz 8 C47_7
abbrev C47_9 := Sq [0,4,5,6,8,32,33,34] C47_6 C47_8
abbrev C47_10 := Bk 1 C47_9
abbrev C47_11 := Ro [Bn 50 .add t34 (kI 1),Mv 34 t50]
abbrev C47_12 := Sq [0,4,5,6,32,33,34] C47_10 C47_11
abbrev C47_13 := Sq [0,4,5,6,32,33,34] C47_5 C47_12
abbrev C47_14 := Sq [0,4,5,6,32,33,34,35] C47_4 C47_13
abbrev C47_15 : ACode := .loop C47_14
abbrev C47_16 := Bk 0 C47_15
abbrev C47_17 := Sq [0,4,5,6,32,33,34] C47_3 C47_16
abbrev C47_18 := Ro [Fa 51 2 t5,Ld 52 none t51,Bn 53 .neq t52 (kI (-1))]
abbrev C47_19 := Dr [Mv 54 t0,Nc 55 t54,Fa 56 34 t55,Ld 57 none t56,Fa 58 2 t5,Ld 59 none t58,Ix 60 1 t57 t59,Ld 61 none t60,Fa 62 32 t6,Sxn 1 t62 t61] [[],[0],[1],[2],[],[4],[3,5],[6],[0,1,2,3,4,5,6,7],[8,7,0,1,2,3,4,5,6,7]] [(0,[]),(1,[]),(2,[]),(3,[]),(4,[]),(5,[]),(6,[]),(7,[]),(8,[]),(9,[])]
abbrev C47_20 := Cd t53 C47_19 .skip
abbrev C47_21 := Sq [0,4,5,6,53] C47_18 C47_20
abbrev C47_22 := Ro [Ld 63 (some 36) t6,Sxn 36 t4 t63]
abbrev C47_23 := Sq [4] C47_22 .ret
abbrev C47_24 := Sq [4,6] C47_21 C47_23
abbrev C47_25 := Sq [0,4,5,6] C47_17 C47_24
abbrev C47_26 := Sq [0,4,5,6] C47_2 C47_25
abbrev C47_27 : ACode := .fz 5 C47_26
abbrev C47_28 := Sq [0,1,4,5] C47_1 C47_27
abbrev C47_29 := Sq [0,1,4] C47_0 C47_28
abbrev C47 := C47_29
abbrev C47r : List RV := [.c 4 (some 36)]
theorem C47ok : Okf Tryz.prog 47 Tryz.f47 C47 C47r := ⟨Tryz.func47, by kernel_rfl, by kernel_rfl, by kernel_rfl⟩

/-- (*mimesis/ram.Ram).Has -/
abbrev C48_0 := Ro [As 6 kF]
abbrev C48_1 := Ro [Mv 7 t0,Ep 8 false t7 kP,Mv 9 t8,Mvf 10 9 t2,Bnf 11 9 .lss t10 (kI 1),Pk 12 t9 kT t11,Mv 13 t12,Mvf 14 13 t2,Mvf 15 13 t0,Ncf 16 13 t15,Faf 17 13 0 t16,Ldf 18 13 none t17,Lnf 19 13 t18,Bnf 20 13 .gtr t14 t19,Pk 21 t13 kT t20,Mv 22 t21,Mvf 23 22 t1,Bnf 24 22 .lss t23 (kU 2147483648),Pk 25 t22 kT t24]
abbrev C48_2 := Ro [As 6 kF]
abbrev C48_3 := Sq [6] C48_2 .ret
abbrev C48_4 := Cd t25 C48_3 .skip
abbrev C48_5 := Sq [0,1,2,25] C48_1 C48_4
abbrev C48_6 := Ro [Mv 26 t1,Bn 27 .sub t26 (kU 2147483648),Cv 28 .i64 t27,Mv 29 t0,Nc 30 t29,Fa 31 0 t30,Ld 32 none t31,Ln 33 t32,Mv 34 t2,Bn 35 .sub t33 t34,Bn 36 .leq t28 t35,As 6 t36]
abbrev C48_7 := Sq [6] C48_6 .ret
abbrev C48_8 := Sq [0,1,2] C48_5 C48_7
abbrev C48_9 := Sq [0,1,2] C48_0 C48_8
abbrev C48 := C48_9
abbrev C48r : List RV := [.t 6]
theorem C48ok : Okf Tryz.prog 48 Tryz.f48 C48 C48r := ⟨Tryz.func48, by kernel_rfl, by kernel_rfl, by kernel_rfl⟩

/-- (*mimesis/ram.Ram).asked -/
abbrev C49_0 := Ro [As 6 (kI 0)]
abbrev C49_1 := Ro [Mv 8 t0,Ep 9 false t8 kP,Mv 10 t9,Mvf 11 10 t2,Bnf 12 10 .neq t11 (kI 1),Mvf 13 10 t12,Mvt 14 13 t2,Bnt 15 13 .neq t14 (kI 2),Pkf 16 10 t13 t15 kF,Mvf 17 10 t16,Mvt 18 17 t2,Bnt 19 17 .neq t18 (kI 4),Pkf 20 10 t17 t19 kF,Pk 21 t10 kT t20,As 7 t21]
abbrev C49_2 := Ro [As 6 (kI 2)]
abbrev C49_3 := Sq [6] C49_2 .ret
abbrev C49_4 := Ro [Mv 23 t1,Mv 24 t2,Cv 25 .u32 t24,Bn 26 .rem t23 t25,Bn 27 .neq t26 (kU 0),As 22 t27]
abbrev C49_5 := Ro [As 6 (kI 5)]
abbrev C49_6 := Sq [6] C49_5 .ret
abbrev C49_7 := Ro [Mv 29 t0,Mv 30 t1,Mv 31 t2,Ca 32 48 [t29,t30,t31],Un 33 .not t32,As 28 t33]
abbrev C49_8 := Ro [As 6 (kI 6)]
abbrev C49_9 := Sq [6] C49_8 .ret
abbrev C49_10 := Cd t28 C49_9 .skip
abbrev C49_11 := Sq [28] C49_7 C49_10
abbrev C49_12 := Cd t22 C49_6 C49_11
abbrev C49_13 := Sq [0,1,2,22] C49_4 C49_12
abbrev C49_14 := Cd t7 C49_3 C49_13
abbrev C49_15 := Sq [0,1,2,7] C49_1 C49_14
abbrev C49_16 := Bk 0 C49_15
abbrev C49_17 := Ro [As 6 (kI 0)]
abbrev C49_18 := Sq [6] C49_17 .ret
abbrev C49_19 := Sq [] C49_16 C49_18
abbrev C49_20 := Sq [0,1,2] C49_0 C49_19
abbrev C49 := C49_20
abbrev C49r : List RV := [.t 6]
theorem C49ok : Okf Tryz.prog 49 Tryz.f49 C49 C49r := ⟨Tryz.func49, by kernel_rfl, by kernel_rfl, by kernel_rfl⟩

/-- mimesis/word.Bytes -/
abbrev C50_0 := Ro [As 4 kS,As 5 (kI 0)]
abbrev C50_1 := Ro [Mv 8 t1,Ca 9 80 [t8],Un 10 .not t9]
abbrev C50_2 := Ro [As 4 kS,As 5 (kI 4)]
abbrev C50_3 := Sq [4,5] C50_2 .ret
abbrev C50_4 := Cd t10 C50_3 .skip
abbrev C50_5 := Sq [0,1,10] C50_1 C50_4
abbrev C50_6 := Ro [As 6 kS]
abbrev C50_7 := Ro [Mv 11 t1,Mv 12 (kI 0)]
abbrev C50_8 := Ro [Bn 13 .lss t12 t11]
abbrev C50_9 := Cd t13 .skip (.exit 0)
abbrev C50_10 := Ro [Mv 14 t12,As 7 t14]
abbrev C50_11 := Ro [Mv 15 t6,Mv 16 t0,Mv 17 t7,Bn 18 .mul (kI 8) t17,Cv 19 .u64 t18,Bn 20 .shr t16 t19,Cv 21 .u8 t20,⟨(some 22),none,.e (.bsr 1 [.int .u8 0] [(0,1,t21)])⟩,Ap 23 1 1 t15 t22,As 6 t23]
abbrev C50_12 := Sq [0,6,7,11,12] C50_10 C50_11
abbrev C50_13 := Bk 1 C50_12
abbrev C50_14 := Ro [Bn 24 .add t12 (kI 1),Mv 12 t24]
abbrev C50_15 := Sq [0,6,11,12] C50_13 C50_14
abbrev C50_16 := Sq [0,6,11,12] C50_9 C50_15
abbrev C50_17 := Sq [0,6,11,12,13] C50_8 C50_16
abbrev C50_18 : ACode := .loop C50_17
abbrev C50_19 := Bk 0 C50_18
abbrev C50_20 := Sq [0,6,11,12] C50_7 C50_19
abbrev C50_21 := Ro [Mv 25 t6,As 4 t25,As 5 (kI 0)]
abbrev C50_22 := Sq [4,5] C50_21 .ret
abbrev C50_23 := Sq [6] C50_20 C50_22
abbrev C50_24 := Sq [0,1,6] C50_6 C50_23
abbrev C50_25 := Sq [0,1] C50_5 C50_24
abbrev C50_26 := Sq [0,1] C50_0 C50_25
abbrev C50 := C50_26
abbrev C50r : List RV := [.t 4,.t 5]
theorem C50ok : Okf Tryz.prog 50 Tryz.f50 C50 C50r := ⟨Tryz.func50, by kernel_rfl, by kernel_rfl, by kernel_rfl⟩

/-- (*mimesis/ram.Ram).at -/
abbrev C51_0 := Ro [As 6 kS]
abbrev C51_1 := Ro [Mv 8 t1,Bn 9 .sub t8 (kU 2147483648),Cv 10 .i64 t9,As 7 t10]
abbrev C51_2 := Ro [Mv 11 t0,Nc 12 t11,Fa 13 0 t12,Ld 14 none t13,Mv 15 t7,Mv 16 t7,Mv 17 t2,Bn 18 .add t16 t17,Mv 19 t7,Mv 20 t2,Bn 21 .add t19 t20,⟨(some 22),none,.r (.sls3 1 t14 (some t15) t18 t21)⟩,As 6 t22]
abbrev C51_3 := Sq [6] C51_2 .ret
abbrev C51_4 := Sq [0,2,7] C51_1 C51_3
abbrev C51_5 := Sq [0,1,2] C51_0 C51_4
abbrev C51 := C51_5
abbrev C51r : List RV := [.t 6]
theorem C51ok : Okf Tryz.prog 51 Tryz.f51 C51 C51r := ⟨Tryz.func51, by kernel_rfl, by kernel_rfl, by kernel_rfl⟩

/-- (*mimesis/ram.Ram).Page -/
abbrev C52_0 := Ro [As 4 (kI 0)]
abbrev C52_1 := Ro [Mv 5 t0,Mv 6 t1,Ca 7 48 [t5,t6,(kI 1)],Un 8 .not t7]
abbrev C52_2 := Ro [As 4 (kI (-1))]
abbrev C52_3 := Sq [4] C52_2 .ret
abbrev C52_4 := Cd t8 C52_3 .skip
abbrev C52_5 := Sq [1,8] C52_1 C52_4
abbrev C52_6 := Ro [Mv 9 t1,Bn 10 .sub t9 (kU 2147483648),Cv 11 .i64 t10,Bn 12 .quo t11 (kI 64),As 4 t12]
abbrev C52_7 := Sq [4] C52_6 .ret
abbrev C52_8 := Sq [1] C52_5 C52_7
abbrev C52_9 := Sq [0,1] C52_0 C52_8
abbrev C52 := C52_9
abbrev C52r : List RV := [.t 4]
theorem C52ok : Okf Tryz.prog 52 Tryz.f52 C52 C52r := ⟨Tryz.func52, by kernel_rfl, by kernel_rfl, by kernel_rfl⟩

/-- (*mimesis/console.Console).send -/
abbrev C53_0 := Ro [Mv 4 t0,Mv 5 t0,Nc 6 t5,Fa 7 4 t6,Ld 8 none t7,Mv 9 t1,Cv 10 .u8 t9,⟨(some 11),none,.e (.bsr 1 [.int .u8 0] [(0,1,t10)])⟩,Ap 12 1 1 t8 t11,Nc 13 t4,Fa 14 4 t13,Sxn 1 t14 t12]
abbrev C53 := C53_0
abbrev C53r : List RV := []
theorem C53ok : Okf Tryz.prog 53 Tryz.f53 C53 C53r := ⟨Tryz.func53, by kernel_rfl, by kernel_rfl, by kernel_rfl⟩

/-- (*mimesis/console.Console).heal -/
abbrev C54_0 := Ro [Mv 4 t0,Nc 5 t4,Fa 6 3 t5,Sxn 1 t6 kF]
abbrev C54 := C54_0
abbrev C54r : List RV := []
theorem C54ok : Okf Tryz.prog 54 Tryz.f54 C54 C54r := ⟨Tryz.func54, by kernel_rfl, by kernel_rfl, by kernel_rfl⟩

/-- mimesis/timer.Has -/
abbrev C55_0 := Ro [As 2 kF]
abbrev C55_1 := Ro [Mv 3 t0]
abbrev C55_2 := Ro [Bn 5 .eql t3 (kU 33554432),As 4 t5]
abbrev C55_3 := Ro [Bn 6 .eql t3 (kU 33570816),As 4 t6]
abbrev C55_4 := Ro [Bn 7 .eql t3 (kU 33570820),As 4 t7]
abbrev C55_5 := Ro [Bn 8 .eql t3 (kU 33603576),As 4 t8]
abbrev C55_6 := Ro [Bn 9 .eql t3 (kU 33603580),As 4 t9]
abbrev C55_7 := Cd t4 .skip C55_6
abbrev C55_8 := Sq [3,4] C55_5 C55_7
abbrev C55_9 := Cd t4 .skip C55_8
abbrev C55_10 := Sq [3,4] C55_4 C55_9
abbrev C55_11 := Cd t4 .skip C55_10
abbrev C55_12 := Sq [3,4] C55_3 C55_11
abbrev C55_13 := Cd t4 .skip C55_12
abbrev C55_14 := Sq [3,4] C55_2 C55_13
abbrev C55_15 := Ro [As 2 kT]
abbrev C55_16 := Sq [2] C55_15 .ret
abbrev C55_17 := Cd t4 C55_16 .skip
abbrev C55_18 := Sq [4] C55_14 C55_17
abbrev C55_19 := Bk 0 C55_18
abbrev C55_20 := Sq [3] C55_1 C55_19
abbrev C55_21 := Ro [As 2 kF]
abbrev C55_22 := Sq [2] C55_21 .ret
abbrev C55_23 := Sq [] C55_20 C55_22
abbrev C55_24 := Sq [0] C55_0 C55_23
abbrev C55 := C55_24
abbrev C55r : List RV := [.t 2]
theorem C55ok : Okf Tryz.prog 55 Tryz.f55 C55 C55r := ⟨Tryz.func55, by kernel_rfl, by kernel_rfl, by kernel_rfl⟩

/-- (*mimesis/timer.Timer).Write$1 -/
abbrev C56_0 := Ro [As 4 (kL 0)]
abbrev C56_1 := Ro [Ld 5 none t1,Bn 6 .and t5 (kU 4),Bn 7 .neq t6 (kU 0)]
abbrev C56_2 := Ro [Mv 8 t0,Bn 9 .and t8 (kL 4294967295),Ld 10 none t2,Cv 11 .u64 t10,Bn 12 .shl t11 (kL 32),Bn 13 .or t9 t12,As 4 t13]
abbrev C56_3 := Sq [4] C56_2 .ret
abbrev C56_4 := Cd t7 C56_3 .skip
abbrev C56_5 := Sq [0,2,7] C56_1 C56_4
abbrev C56_6 := Ro [Mv 14 t0,Bn 15 .andNot t14 (kL 4294967295),Ld 16 none t2,Cv 17 .u64 t16,Bn 18 .or t15 t17,As 4 t18]
abbrev C56_7 := Sq [4] C56_6 .ret
abbrev C56_8 := Sq [0,2] C56_5 C56_7
abbrev C56_9 := Sq [0,1,2] C56_0 C56_8
abbrev C56 := C56_9
abbrev C56r : List RV := [.t 4]
theorem C56ok : Okf Tryz.prog 56 Tryz.f56 C56 C56r := ⟨Tryz.func56, by kernel_rfl, by kernel_rfl, by kernel_rfl⟩

/-- (*mimesis/timer.Timer).Now -/
abbrev C57_0 := Ro [As 4 (kL 0)]
abbrev C57_1 := Ro [Mv 5 t0,Ep 6 false t5 kP]
abbrev C57_2 := Ro [As 4 (kL 0)]
abbrev C57_3 := Sq [4] C57_2 .ret
abbrev C57_4 := Cd t6 C57_3 .skip
abbrev C57_5 := Sq [0,1,6] C57_1 C57_4
abbrev C57_6 := Ro [Mv 7 t1,Mv 8 t0,Nc 9 t8,Fa 10 0 t9,Ld 11 none t10,Bn 12 .add t7 t11,As 4 t12]
abbrev C57_7 := Sq [4] C57_6 .ret
abbrev C57_8 := Sq [0,1] C57_5 C57_7
abbrev C57_9 := Sq [0,1] C57_0 C57_8
abbrev C57 := C57_9
abbrev C57r : List RV := [.t 4]
theorem C57ok : Okf Tryz.prog 57 Tryz.f57 C57 C57r := ⟨Tryz.func57, by kernel_rfl, by kernel_rfl, by kernel_rfl⟩

/-- mimesis/mimesisref10.Right -/
abbrev C58_0 := Ro [As 2 kF]
abbrev C58_1 := Ro [Mv 3 t0,Bn 4 .geq t3 (kI 64),Mv 5 t4,Mvt 6 5 t0,Bnt 7 5 .leq t6 (kI 65536),Pk 8 t5 t7 kF,Mv 9 t8,Mvt 10 9 t0,Bnt 11 9 .rem t10 (kI 64),Bnt 12 9 .eql t11 (kI 0),Pk 13 t9 t12 kF,As 2 t13]
abbrev C58_2 := Sq [2] C58_1 .ret
abbrev C58_3 := Sq [0] C58_0 C58_2
abbrev C58 := C58_3
abbrev C58r : List RV := [.t 2]
theorem C58ok : Okf Tryz.prog 58 Tryz.f58 C58 C58r := ⟨Tryz.func58, by kernel_rfl, by kernel_rfl, by kernel_rfl⟩

/-- mimesis/mimesisref15.Check -/
abbrev C59_0 := Ro [As 4 (kI 0)]
abbrev C59_1 := Ro [Mv 6 t0,Ca 7 81 [t6]]
abbrev C59_2 := Ro [As 4 (kI 3)]
abbrev C59_3 := Sq [4] C59_2 .ret
abbrev C59_4 := Cd t7 C59_3 .skip
abbrev C59_5 := Sq [0,1,7] C59_1 C59_4
abbrev C59_6 := Ro [As 5 (kI 0)]
abbrev C59_7 := Ro [Mv 8 t5,Mv 9 t0,Ln 10 t9,Bn 11 .lss t8 t10]
abbrev C59_8 := Cd t11 .skip (.exit 0)
abbrev C59_9 := Sq [0,1,5,11] C59_7 C59_8
abbrev C59_10 := Dr [Mv 14 t0,Mv 15 t5,Ix 16 2 t14 t15,Fa 17 1 t16,Ld 18 none t17,Ln 19 t18,Bn 20 .gtr t19 (kI 0),Mv 21 t20,Mvt 22 21 t1,Mvt 23 21 t0,Mvt 24 21 t5,Ixt 25 21 2 t23 t24,Fat 26 21 0 t25,Ldt 27 21 none t26,Mvt 28 21 t0,Mvt 29 21 t5,Ixt 30 21 2 t28 t29,Fat 31 21 1 t30,Ldt 32 21 none t31,Lnt 33 21 t32,Cat 34 21 82 [t22,t27,t33],Unt 35 21 .not t34,Pk 36 t21 t35 kF] [[],[],[0,1],[2],[3],[4],[5],[6],[7],[7],[7],[9,10,7],[11,7],[12,7],[7],[7],[14,15,7],[16,7],[17,7],[18,7],[8,13,19,7,7],[20,7],[7,21]] [(0,[]),(1,[]),(2,[]),(3,[]),(4,[]),(5,[]),(6,[]),(7,[]),(8,[]),(9,[]),(10,[]),(11,[]),(12,[]),(13,[]),(14,[]),(15,[]),(16,[]),(17,[]),(18,[]),(19,[]),(20,[]),(21,[]),(22,[])]
abbrev C59_11 := Ro [As 4 (kI 6)]
abbrev C59_12 := Sq [4] C59_11 .ret
abbrev C59_13 := Cd t36 C59_12 .skip
abbrev C59_14 := Sq [0,1,5,36] C59_10 C59_13
abbrev C59_15 := Bk 1 C59_14
abbrev C59_16 := Ro [Mv 12 t5,Bn 13 .add t12 (kI 1),As 5 t13]
abbrev C59_17 := Sq [0,1,5] C59_15 C59_16
abbrev C59_18 := Sq [0,1,5] C59_9 C59_17
abbrev C59_19 : ACode := .loop C59_18
abbrev C59_20 := Bk 0 C59_19
abbrev C59_21 := Sq [0,1,5] C59_6 C59_20
abbrev C59_22 := Ro [As 4 (kI 0)]
abbrev C59_23 := Sq [4] C59_22 .ret
abbrev C59_24 := Sq [] C59_21 C59_23
abbrev C59_25 := Sq [0,1] C59_5 C59_24
abbrev C59_26 := Sq [0,1] C59_0 C59_25
abbrev C59 := C59_26
abbrev C59r : List RV := [.t 4]
theorem C59ok : Okf Tryz.prog 59 Tryz.f59 C59 C59r := ⟨Tryz.func59, by kernel_rfl, by kernel_rfl, by kernel_rfl⟩

/-- mimesis/mimesisref12.Right -/
abbrev C60_0 := Ro [As 2 (kI 0)]
abbrev C60_1 := Ro [Mv 4 t0,Ln 5 t4,Bn 6 .gtr t5 (kI 256)]
abbrev C60_2 := Ro [As 2 (kI 3)]
abbrev C60_3 := Sq [2] C60_2 .ret
abbrev C60_4 := Cd t6 C60_3 .skip
abbrev C60_5 := Sq [0,6] C60_1 C60_4
abbrev C60_6 := Ro [As 3 (kI 1)]
abbrev C60_7 := Ro [Mv 7 t3,Mv 8 t0,Ln 9 t8,Bn 10 .lss t7 t9]
abbrev C60_8 := Cd t10 .skip (.exit 0)
abbrev C60_9 := Sq [0,3,10] C60_7 C60_8
abbrev C60_10 := Dr [Mv 13 t0,Mv 14 t3,Ix 15 2 t13 t14,Fa 16 0 t15,Ld 17 none t16,Mv 18 t0,Mv 19 t3,Bn 20 .sub t19 (kI 1),Ix 21 2 t18 t20,Fa 22 0 t21,Ld 23 none t22,Bn 24 .lss t17 t23] [[],[],[0,1],[2],[3],[],[],[6],[5,7],[8],[9],[4,10]] [(0,[]),(1,[]),(2,[]),(3,[]),(4,[]),(5,[]),(6,[]),(7,[]),(8,[]),(9,[]),(10,[]),(11,[])]
abbrev C60_11 := Ro [As 2 (kI 1)]
abbrev C60_12 := Sq [2] C60_11 .ret
abbrev C60_13 := Cd t24 C60_12 .skip
abbrev C60_14 := Sq [0,3,24] C60_10 C60_13
abbrev C60_15 := Bk 1 C60_14
abbrev C60_16 := Ro [Mv 11 t3,Bn 12 .add t11 (kI 1),As 3 t12]
abbrev C60_17 := Sq [0,3] C60_15 C60_16
abbrev C60_18 := Sq [0,3] C60_9 C60_17
abbrev C60_19 : ACode := .loop C60_18
abbrev C60_20 := Bk 0 C60_19
abbrev C60_21 := Sq [0,3] C60_6 C60_20
abbrev C60_22 := Ro [As 2 (kI 0)]
abbrev C60_23 := Sq [2] C60_22 .ret
abbrev C60_24 := Sq [] C60_21 C60_23
abbrev C60_25 := Sq [0] C60_5 C60_24
abbrev C60_26 := Sq [0] C60_0 C60_25
abbrev C60 := C60_26
abbrev C60r : List RV := [.t 2]
theorem C60ok : Okf Tryz.prog 60 Tryz.f60 C60 C60r := ⟨Tryz.func60, by kernel_rfl, by kernel_rfl, by kernel_rfl⟩

/-- mimesis/mimesisref09.Legal -/
abbrev C61_0 := Ro [As 4 (kU 0)]
abbrev C61_1 := Ro [Mv 6 t0,Ca 7 83 [t6],As 5 t7]
abbrev C61_2 := Dr [Mv 8 t1,Ca 9 84 [],Mv 10 t5,Ix 11 1 t9 t10,Ld 12 none t11,Bn 13 .and t8 t12,Ca 14 85 [],Mv 15 t5,Ix 16 1 t14 t15,Ld 17 none t16,Bn 18 .or t13 t17,As 4 t18] [[],[],[],[1,2],[3],[0,4],[1],[],[6,7],[8],[5,9],[10,6,0,1,2,3,4,5,6,7,8,9,10]] [(0,[]),(2,[]),(7,[]),(1,[0,2,7]),(3,[]),(4,[]),(5,[]),(6,[0,2,7,3,4,5]),(8,[]),(9,[]),(10,[]),(11,[])]
abbrev C61_3 := Sq [4] C61_2 .ret
abbrev C61_4 := Sq [1,5] C61_1 C61_3
abbrev C61_5 := Sq [0,1] C61_0 C61_4
abbrev C61 := C61_5
abbrev C61r : List RV := [.t 4]
theorem C61ok : Okf Tryz.prog 61 Tryz.f61 C61 C61r := ⟨Tryz.func61, by kernel_rfl, by kernel_rfl, by kernel_rfl⟩

/-- mimesis/mimesisref07.Has -/
abbrev C62_0 := Ro [As 2 kF]
abbrev C62_1 := Ro [Mv 3 t0,Bn 4 .geq t3 (kI 19),Mv 5 t4,Mvt 6 5 t0,Bnt 7 5 .leq t6 (kI 37),Pk 8 t5 t7 kF,As 2 t8]
abbrev C62_2 := Sq [2] C62_1 .ret
abbrev C62_3 := Sq [0] C62_0 C62_2
abbrev C62 := C62_3
abbrev C62r : List RV := [.t 2]
theorem C62ok : Okf Tryz.prog 62 Tryz.f62 C62 C62r := ⟨Tryz.func62, by kernel_rfl, by kernel_rfl, by kernel_rfl⟩

/-- mimesis/mimesisref08.Has -/
abbrev C63_0 := Ro [As 2 kF]
abbrev C63_1 := Ro [Mv 3 t0,Bn 4 .geq t3 (kI 50),Mv 5 t4,Mvt 6 5 t0,Bnt 7 5 .leq t6 (kI 57),Pk 8 t5 t7 kF,As 2 t8]
abbrev C63_2 := Sq [2] C63_1 .ret
abbrev C63_3 := Sq [0] C63_0 C63_2
abbrev C63 := C63_3
abbrev C63r : List RV := [.t 2]
theorem C63ok : Okf Tryz.prog 63 Tryz.f63 C63 C63r := ⟨Tryz.func63, by kernel_rfl, by kernel_rfl, by kernel_rfl⟩

/-- mimesis/image.Check -/
abbrev C64_0 := Ro [As 4 (kI 0)]
abbrev C64_1 := Ro [Mv 7 t0,Ca 8 86 [t7]]
abbrev C64_2 := Ro [As 4 (kI 3)]
abbrev C64_3 := Sq [4] C64_2 .ret
abbrev C64_4 := Cd t8 C64_3 .skip
abbrev C64_5 := Sq [0,1,8] C64_1 C64_4
abbrev C64_6 := Ro [Mv 9 t0,Ln 10 t9,Mv 11 (kI 0)]
abbrev C64_7 := Ro [Bn 12 .lss t11 t10]
abbrev C64_8 := Cd t12 .skip (.exit 0)
abbrev C64_9 := Ro [Ix 13 2 t9 t11,Ld 14 (some 2) t13,Al 6 [.int .u32 0,.nils],Sxn 2 t6 t14]
abbrev C64_10 := Ro [Ld 15 (some 2) t6,Mv 16 t1,Ca 17 87 [t15,t16],Un 18 .not t17]
abbrev C64_11 := Ro [As 4 (kI 6)]
abbrev C64_12 := Sq [4] C64_11 .ret
abbrev C64_13 := Cd t18 C64_12 .skip
abbrev C64_14 := Sq [1,9,10,11,18] C64_10 C64_13
abbrev C64_15 : ACode := .fz 6 C64_14
abbrev C64_16 := Sq [1,6,9,10,11] C64_9 C64_15
abbrev C64_17 := Bk 1 C64_16
abbrev C64_18 := Ro [Bn 19 .add t11 (kI 1),Mv 11 t19]
abbrev C64_19 := Sq [1,9,10,11] C64_17 C64_18
abbrev C64_20 := Sq [1,9,10,11] C64_8 C64_19
abbrev C64_21 := Sq [1,9,10,11,12] C64_7 C64_20
abbrev C64_22 : ACode := .loop C64_21
abbrev C64_23 := Bk 0 C64_22
abbrev C64_24 := Sq [1,9,10,11] C64_6 C64_23
abbrev C64_25 := Ro [As 4 (kI 0)]
abbrev C64_26 := Sq [4] C64_25 .ret
abbrev C64_27 := Sq [] C64_24 C64_26
abbrev C64_28 := Sq [0,1] C64_5 C64_27
abbrev C64_29 := Sq [0,1] C64_0 C64_28
abbrev C64 := C64_29
abbrev C64r : List RV := [.t 4]
theorem C64ok : Okf Tryz.prog 64 Tryz.f64 C64 C64r := ⟨Tryz.func64, by kernel_rfl, by kernel_rfl, by kernel_rfl⟩

/-- (*mimesis/ram.Ram).Size -/
abbrev C65_0 := Ro [As 2 (kI 0)]
abbrev C65_1 := Ro [Mv 3 t0,Ep 4 false t3 kP]
abbrev C65_2 := Ro [As 2 (kI 0)]
abbrev C65_3 := Sq [2] C65_2 .ret
abbrev C65_4 := Cd t4 C65_3 .skip
abbrev C65_5 := Sq [0,4] C65_1 C65_4
abbrev C65_6 := Ro [Mv 5 t0,Nc 6 t5,Fa 7 0 t6,Ld 8 none t7,Ln 9 t8,As 2 t9]
abbrev C65_7 := Sq [2] C65_6 .ret
abbrev C65_8 := Sq [0] C65_5 C65_7
abbrev C65_9 := Sq [0] C65_0 C65_8
abbrev C65 := C65_9
abbrev C65r : List RV := [.t 2]
theorem C65ok : Okf Tryz.prog 65 Tryz.f65 C65 C65r := ⟨Tryz.func65, by kernel_rfl, by kernel_rfl, by kernel_rfl⟩

/-- (*mimesis/ram.Ram).Fill -/
abbrev C66_0 := Ro [As 6 (kI 0)]
abbrev C66_1 := Ro [Mv 8 t0,Ep 9 false t8 kP,As 7 t9]
abbrev C66_2 := Ro [As 6 (kI 2)]
abbrev C66_3 := Sq [6] C66_2 .ret
abbrev C66_4 := Ro [Mv 11 t2,Ln 12 t11,Bn 13 .eql t12 (kI 0),As 10 t13]
abbrev C66_5 := Ro [As 6 (kI 0)]
abbrev C66_6 := Sq [6] C66_5 .ret
abbrev C66_7 := Ro [Mv 15 t0,Mv 16 t1,Mv 17 t2,Ln 18 t17,Ca 19 48 [t15,t16,t18],Un 20 .not t19,As 14 t20]
abbrev C66_8 := Ro [As 6 (kI 6)]
abbrev C66_9 := Sq [6] C66_8 .ret
abbrev C66_10 := Cd t14 C66_9 .skip
abbrev C66_11 := Sq [0,1,2,14] C66_7 C66_10
abbrev C66_12 := Cd t10 C66_6 C66_11
abbrev C66_13 := Sq [0,1,2,10] C66_4 C66_12
abbrev C66_14 := Cd t7 C66_3 C66_13
abbrev C66_15 := Sq [0,1,2,7] C66_1 C66_14
abbrev C66_16 := Bk 0 C66_15
abbrev C66_17 := Ro [Mv 21 t0,Mv 22 t1,Mv 23 t2,Ln 24 t23,Ca 25 51 [t21,t22,t24],Mv 26 t2,⟨(some 27),none,.e (.cpy 1 t25 t26)⟩]
abbrev C66_18 := Ro [As 6 (kI 0)]
abbrev C66_19 := Sq [6] C66_18 .ret
abbrev C66_20 := Sq [] C66_17 C66_19
abbrev C66_21 := Sq [0,1,2] C66_16 C66_20
abbrev C66_22 := Sq [0,1,2] C66_0 C66_21
abbrev C66 := C66_22
abbrev C66r : List RV := [.t 6]
theorem C66ok : Okf Tryz.prog 66 Tryz.f66 C66 C66r := ⟨Tryz.func66, by kernel_rfl, by kernel_rfl, by kernel_rfl⟩

/-- slices.Clone[[]mimesis/api.Arrival,mimesis/api.Arrival] -/
abbrev C67_0 := Ro [As 2 kS]
abbrev C67_1 := Ro [Mv 3 t0,Nq 4 false t3]
abbrev C67_2 := Ro [As 2 kS]
abbrev C67_3 := Sq [2] C67_2 .ret
abbrev C67_4 := Cd t4 C67_3 .skip
abbrev C67_5 := Sq [0,4] C67_1 C67_4
abbrev C67_6 := Ro [⟨(some 5),none,.e (.bsl 0 [] [])⟩,Mv 6 t0,Ap 7 2 16 t5 t6,As 2 t7]
abbrev C67_7 := Sq [2] C67_6 .ret
abbrev C67_8 := Sq [0] C67_5 C67_7
abbrev C67_9 := Sq [0] C67_0 C67_8
abbrev C67 := C67_9
abbrev C67r : List RV := [.t 2]
theorem C67ok : Okf Tryz.prog 67 Tryz.f67 C67 C67r := ⟨Tryz.func67, by kernel_rfl, by kernel_rfl, by kernel_rfl⟩

/-- mimesis/fifo.New -/
abbrev C68_0 := Ro [As 0 kP]
abbrev C68_1 := Ro [⟨(some 1),none,.r (.bld [z1,z1,z1,z1,z1,z1,z1,z1,z1,z1,z1,z1,z1,z1,z1,z1,zi,zi] [])⟩,⟨(some 2),none,.e (.box t1)⟩,As 0 t2]
abbrev C68_2 := Sq [0] C68_1 .ret
abbrev C68_3 := Sq [] C68_0 C68_2
abbrev C68 := C68_3
abbrev C68r : List RV := [.t 0]
theorem C68ok : Okf Tryz.prog 68 Tryz.f68 C68 C68r := ⟨Tryz.func68, by kernel_rfl, by kernel_rfl, by kernel_rfl⟩

/-- (mimesis/ir.judge).right -/
abbrev C69_0 := Ro [Br 1 t0,As 2 kF]
abbrev C69_1 := Ro [Fa 6 0 t1,Ld 7 none t6,Nc 8 t7,Fa 9 1 t8,Ld 10 none t9,Ln 11 t10,Mv 12 (kI 0)]
abbrev C69_2 := Ro [Bn 13 .lss t12 t11]
abbrev C69_3 := Cd t13 .skip (.exit 0)
abbrev C69_4 := Ro [Mv 14 t12,As 3 t14]
abbrev C69_5 := Ro [Ld 15 (some 1) t1,Mv 16 t3,Ca 17 88 [t15,t16],Un 18 .not t17]
abbrev C69_6 := Ro [As 2 kF]
abbrev C69_7 := Sq [2] C69_6 .ret
abbrev C69_8 := Cd t18 C69_7 .skip
abbrev C69_9 := Sq [1,11,12,18] C69_5 C69_8
abbrev C69_10 := Sq [1,3,11,12] C69_4 C69_9
abbrev C69_11 := Bk 1 C69_10
abbrev C69_12 := Ro [Bn 19 .add t12 (kI 1),Mv 12 t19]
abbrev C69_13 := Sq [1,11,12] C69_11 C69_12
abbrev C69_14 := Sq [1,11,12] C69_3 C69_13
abbrev C69_15 := Sq [1,11,12,13] C69_2 C69_14
abbrev C69_16 : ACode := .loop C69_15
abbrev C69_17 := Bk 0 C69_16
abbrev C69_18 := Sq [1,11,12] C69_1 C69_17
abbrev C69_19 := Ro [Fa 20 0 t1,Ld 21 none t20,Nc 22 t21,Fa 23 2 t22,Ld 24 none t23,Ln 25 t24,Mv 26 (kI 0)]
abbrev C69_20 := Ro [Bn 27 .lss t26 t25]
abbrev C69_21 := Cd t27 .skip (.exit 2)
abbrev C69_22 := Ro [Mv 28 t26,As 4 t28]
abbrev C69_23 := Ro [Ld 29 (some 1) t1,Mv 30 t4,Ca 31 89 [t29,t30],Un 32 .not t31]
abbrev C69_24 := Ro [As 2 kF]
abbrev C69_25 := Sq [2] C69_24 .ret
abbrev C69_26 := Cd t32 C69_25 .skip
abbrev C69_27 := Sq [1,25,26,32] C69_23 C69_26
abbrev C69_28 := Sq [1,4,25,26] C69_22 C69_27
abbrev C69_29 := Bk 3 C69_28
abbrev C69_30 := Ro [Bn 33 .add t26 (kI 1),Mv 26 t33]
abbrev C69_31 := Sq [1,25,26] C69_29 C69_30
abbrev C69_32 := Sq [1,25,26] C69_21 C69_31
abbrev C69_33 := Sq [1,25,26,27] C69_20 C69_32
abbrev C69_34 : ACode := .loop C69_33
abbrev C69_35 := Bk 2 C69_34
abbrev C69_36 := Sq [1,25,26] C69_19 C69_35
abbrev C69_37 := Ro [As 5 (.func 90)]
abbrev C69_38 := Dr [Fa 34 0 t1,Ld 35 none t34,Nc 36 t35,Fa 37 0 t36,Ld 38 none t37,Ln 39 t38,Bn 40 .gtr t39 (kI 0),Mv 41 t40,Fat 42 41 0 t1,Ldt 43 41 none t42,Nct 44 41 t43,Fat 45 41 0 t44,Ldt 46 41 none t45,Mvt 47 41 t5,Cat 48 41 91 [t46,t47],Unt 49 41 .not t48,Pk 50 t41 t49 kF,Mv 51 t50,Ldt 52 51 (some 1) t1,Fat 53 51 0 t1,Ldt 54 51 none t53,Nct 55 51 t54,Fat 56 51 3 t55,Ldt 57 51 none t56,Fat 58 51 0 t1,Ldt 59 51 none t58,Nct 60 51 t59,Fat 61 51 1 t60,Ldt 62 51 none t61,Lnt 63 51 t62,Cat 64 51 92 [t52,t57,t63],Pk 65 t51 t64 kF,As 2 t65] [[],[0],[1],[2],[3],[4],[5],[6],[7],[8,7],[9,7],[10,7],[11,7],[7],[12,13,7,7],[14,7],[7,15],[16,14],[17],[17],[19,17],[20,17],[21,17],[22,17],[17],[24,17],[25,17],[26,17],[27,17],[28,17],[18,23,29,17,17],[17,30],[31,30,0,1,2,3,4,5,6,7,8,9,10,11,12,13,14,15,16,17,18,19,20,21,22,23,24,25,26,27,28,29,30,31]] [(0,[]),(1,[]),(2,[]),(3,[]),(4,[]),(5,[]),(6,[]),(7,[]),(8,[]),(9,[]),(10,[]),(11,[]),(12,[]),(13,[]),(14,[]),(15,[]),(16,[]),(17,[]),(18,[]),(19,[]),(20,[]),(21,[]),(22,[]),(23,[]),(24,[]),(25,[]),(26,[]),(27,[]),(28,[]),(29,[]),(30,[]),(31,[]),(32,[])]
abbrev C69_39 := Sq [2] C69_38 .ret
abbrev C69_40 := Sq [1,5] C69_37 C69_39
abbrev C69_41 := Sq [1] C69_36 C69_40
abbrev C69_42 := Sq [1] C69_18 C69_41
abbrev C69_43 := Sq [1] C69_0 C69_42
abbrev C69 := C69_43
abbrev C69r : List RV := [.t 2]
theorem C69ok : Okf Tryz.prog 69 Tryz.f69 C69 C69r := ⟨Tryz.func69, by kernel_rfl, by kernel_rfl, by kernel_rfl⟩

/-- (*mimesis/bus.Bus).Calls -/
abbrev C70_0 := Ro [As 4 (kU 0)]
abbrev C70_1 := Ro [Mv 6 t0,Ep 7 false t6 kP]
abbrev C70_2 := Ro [As 4 (kU 0)]
abbrev C70_3 := Sq [4] C70_2 .ret
abbrev C70_4 := Cd t7 C70_3 .skip
abbrev C70_5 := Sq [0,1,7] C70_1 C70_4
abbrev C70_6 := Ro [As 5 (kU 0)]
abbrev C70_7 := Ro [Mv 8 t0,Nc 9 t8,Fa 10 2 t9,Ld 11 none t10,Nc 12 t11,Fa 13 2 t12,Ld 14 none t13]
abbrev C70_8 := Ro [Mv 15 t5,Bn 16 .or t15 (kU 8),As 5 t16]
abbrev C70_9 := Cd t14 C70_8 .skip
abbrev C70_10 := Sq [0,1,5,14] C70_7 C70_9
abbrev C70_11 := Ro [Mv 17 t0,Nc 18 t17,Fa 19 2 t18,Ld 20 none t19,Mv 21 t1,Ca 22 93 [t20,t21]]
abbrev C70_12 := Ro [Mv 23 t5,Bn 24 .or t23 (kU 128),As 5 t24]
abbrev C70_13 := Cd t22 C70_12 .skip
abbrev C70_14 := Sq [0,5,22] C70_11 C70_13
abbrev C70_15 := Ro [Mv 25 t0,Nc 26 t25,Fa 27 1 t26,Ld 28 none t27,Ca 29 94 [t28]]
abbrev C70_16 := Ro [Mv 30 t5,Bn 31 .or t30 (kU 2048),As 5 t31]
abbrev C70_17 := Cd t29 C70_16 .skip
abbrev C70_18 := Sq [5,29] C70_15 C70_17
abbrev C70_19 := Ro [Mv 32 t5,As 4 t32]
abbrev C70_20 := Sq [4] C70_19 .ret
abbrev C70_21 := Sq [5] C70_18 C70_20
abbrev C70_22 := Sq [0,5] C70_14 C70_21
abbrev C70_23 := Sq [0,1,5] C70_10 C70_22
abbrev C70_24 := Sq [0,1,5] C70_6 C70_23
abbrev C70_25 := Sq [0,1] C70_5 C70_24
abbrev C70_26 := Sq [0,1] C70_0 C70_25
abbrev C70 := C70_26
abbrev C70r : List RV := [.t 4]
theorem C70ok : Okf Tryz.prog 70 Tryz.f70 C70 C70r := ⟨Tryz.func70, by kernel_rfl, by kernel_rfl, by kernel_rfl⟩

/-- (*mimesis/bus.Bus).Console -/
abbrev C71_0 := Ro [As 2 kP]
abbrev C71_1 := Ro [Mv 3 t0,Ep 4 false t3 kP]
abbrev C71_2 := Ro [As 2 kP]
abbrev C71_3 := Sq [2] C71_2 .ret
abbrev C71_4 := Cd t4 C71_3 .skip
abbrev C71_5 := Sq [0,4] C71_1 C71_4
abbrev C71_6 := Ro [Mv 5 t0,Nc 6 t5,Fa 7 1 t6,Ld 8 none t7,As 2 t8]
abbrev C71_7 := Sq [2] C71_6 .ret
abbrev C71_8 := Sq [0] C71_5 C71_7
abbrev C71_9 := Sq [0] C71_0 C71_8
abbrev C71 := C71_9
abbrev C71r : List RV := [.t 2]
theorem C71ok : Okf Tryz.prog 71 Tryz.f71 C71 C71r := ⟨Tryz.func71, by kernel_rfl, by kernel_rfl, by kernel_rfl⟩

/-- (*mimesis/console.Console).Next -/
abbrev C72_0 := Ro [As 2 (kL 0),As 3 kF]
abbrev C72_1 := Dr [Mv 4 t0,Ep 5 false t4 kP,Mv 6 t5,Mvf 7 6 t0,Ncf 8 6 t7,Faf 9 6 1 t8,Ldf 10 6 none t9,Mvf 11 6 t0,Ncf 12 6 t11,Faf 13 6 0 t12,Ldf 14 6 none t13,Lnf 15 6 t14,Bnf 16 6 .eql t10 t15,Pk 17 t6 kT t16] [[],[0],[1],[2],[3,2],[4,2],[5,2],[2],[7,2],[8,2],[9,2],[10,2],[6,11,2],[2,12]] [(0,[]),(1,[]),(2,[]),(3,[]),(4,[]),(5,[]),(6,[]),(7,[]),(8,[]),(9,[]),(10,[]),(11,[]),(12,[]),(13,[])]
abbrev C72_2 := Ro [As 2 (kL 0),As 3 kF]
abbrev C72_3 := Sq [2,3] C72_2 .ret
abbrev C72_4 := Cd t17 C72_3 .skip
abbrev C72_5 := Sq [0,17] C72_1 C72_4
abbrev C72_6 := Dr [Mv 18 t0,Nc 19 t18,Fa 20 0 t19,Ld 21 none t20,Mv 22 t0,Nc 23 t22,Fa 24 1 t23,Ld 25 none t24,Ix 26 2 t21 t25,Fa 27 0 t26,Ld 28 none t27,As 2 t28,As 3 kT] [[],[0],[1],[2],[],[4],[5],[6],[3,7],[8],[9],[10,0,1,2,3,4,5,6,7,8,9,10],[11,0,1,2,3,4,5,6,7,8,9,10,11]] [(0,[]),(1,[]),(2,[]),(3,[]),(4,[]),(5,[]),(6,[]),(7,[]),(8,[]),(9,[]),(10,[]),(11,[]),(12,[])]
abbrev C72_7 := Sq [2,3] C72_6 .ret
abbrev C72_8 := Sq [0] C72_5 C72_7
abbrev C72_9 := Sq [0] C72_0 C72_8
abbrev C72 := C72_9
abbrev C72r : List RV := [.t 2,.t 3]
theorem C72ok : Okf Tryz.prog 72 Tryz.f72 C72 C72r := ⟨Tryz.func72, by kernel_rfl, by kernel_rfl, by kernel_rfl⟩

/-- (*mimesis/timer.Timer).Left -/
abbrev C73_0 := Ro [As 4 (kL 0)]
abbrev C73_1 := Ro [Mv 6 t0,Ep 7 false t6 kP,As 5 t7]
abbrev C73_2 := Ro [As 4 (kL 18446744073709551615)]
abbrev C73_3 := Sq [4] C73_2 .ret
abbrev C73_4 := Ro [Mv 9 t0,Mv 10 t1,Ca 11 93 [t9,t10],As 8 t11]
abbrev C73_5 := Ro [As 4 (kL 0)]
abbrev C73_6 := Sq [4] C73_5 .ret
abbrev C73_7 := Cd t8 C73_6 .skip
abbrev C73_8 := Sq [0,1,8] C73_4 C73_7
abbrev C73_9 := Cd t5 C73_3 C73_8
abbrev C73_10 := Sq [0,1,5] C73_1 C73_9
abbrev C73_11 := Bk 0 C73_10
abbrev C73_12 := Dr [Mv 12 t0,Nc 13 t12,Fa 14 1 t13,Ld 15 none t14,Mv 16 t0,Mv 17 t1,Ca 18 57 [t16,t17],Bn 19 .sub t15 t18,As 4 t19] [[],[0],[1],[2],[],[],[4,5],[3,6],[7,6,0,1,2,3,4,5,6,7]] [(0,[]),(1,[]),(2,[]),(3,[]),(4,[]),(5,[]),(6,[0,1,2,3]),(7,[]),(8,[])]
abbrev C73_13 := Sq [4] C73_12 .ret
abbrev C73_14 := Sq [0,1] C73_11 C73_13
abbrev C73_15 := Sq [0,1] C73_0 C73_14
abbrev C73 := C73_15
abbrev C73r : List RV := [.t 4]
theorem C73ok : Okf Tryz.prog 73 Tryz.f73 C73 C73r := ⟨Tryz.func73, by kernel_rfl, by kernel_rfl, by kernel_rfl⟩

/-- mimesis/trap.Wakes -/
abbrev C74_0 := Ro [Br 2 t0,As 4 kF]
abbrev C74_1 := Ro [Mv 5 t1,Fa 6 1 t2,Ld 7 none t6,Bn 8 .and t5 t7,Bn 9 .and t8 (kU 2184),Bn 10 .neq t9 (kU 0),As 4 t10]
abbrev C74_2 := Sq [4] C74_1 .ret
abbrev C74_3 := Sq [1,2] C74_0 C74_2
abbrev C74 := C74_3
abbrev C74r : List RV := [.t 4]
theorem C74ok : Okf Tryz.prog 74 Tryz.f74 C74 C74r := ⟨Tryz.func74, by kernel_rfl, by kernel_rfl, by kernel_rfl⟩

/-- (*mimesis/eval.frame).op$1 -/
abbrev C75_0 := Ro [As 3 (kU 0)]
abbrev C75_1 := Ro [Ld 4 none t1,Nc 5 t4,Fa 6 34 t5,Ld 7 none t6,Mv 8 t0,Ix 9 1 t7 t8,Ld 10 none t9,As 3 t10]
abbrev C75_2 := Sq [3] C75_1 .ret
abbrev C75_3 := Sq [0,1] C75_0 C75_2
abbrev C75 := C75_3
abbrev C75r : List RV := [.t 3]
theorem C75ok : Okf Tryz.prog 75 Tryz.f75 C75 C75r := ⟨Tryz.func75, by kernel_rfl, by kernel_rfl, by kernel_rfl⟩

/-- (*mimesis/eval.frame).load -/
abbrev C76_0 := Ro [Br 3 t1,As 4 (kU 0),As 5 (kI 0)]
abbrev C76_1 := Dr [Mv 9 t0,Nc 10 t9,Fa 11 33 t10,Ld 12 none t11,Mv 13 t0,Nc 14 t13,Fa 15 34 t14,Ld 16 none t15,Fa 17 1 t3,Ld 18 none t17,Ix 19 1 t16 t18,Ld 20 none t19,Fa 21 3 t3,Ld 22 none t21,Cv 23 .i64 t22,Ca 24 96 [t23],Ca 25 95 [t12,t20,t24],Mv 8 t25,Ex 26 0 t8,Ex 27 1 t8,As 6 t26,As 7 t27] [[],[0],[1],[2],[],[4],[5],[6],[],[8],[7,9],[10],[],[12],[13],[14],[3,11,15,15],[16],[17],[17],[18,16,0,1,2,3,4,5,6,7,8,9,10,11,12,13,14,15,16,17,18],[19,20,0,1,2,3,4,5,6,7,8,9,10,11,12,13,14,15,16,17,18,19,20]] [(0,[]),(1,[]),(2,[]),(3,[]),(4,[]),(5,[]),(6,[]),(7,[]),(8,[]),(9,[]),(10,[]),(11,[]),(12,[]),(13,[]),(14,[]),(15,[0,1,2,3,4,5,6,7,8,9,10,11]),(16,[]),(17,[]),(18,[]),(19,[]),(20,[19]),(21,[])]
abbrev C76_2 := Ro [Mv 28 t7,Bn 29 .neq t28 (kI 0)]
abbrev C76_3 := Dr [Fa 30 4 t3,Ld 31 none t30,As 4 (kU 0),As 5 t31] [[],[0],[],[1,2,0,1,2]] [(0,[]),(1,[]),(2,[0,1]),(3,[])]
abbrev C76_4 := Sq [4,5] C76_3 .ret
abbrev C76_5 := Cd t29 C76_4 .skip
abbrev C76_6 := Sq [3,6,29] C76_2 C76_5
abbrev C76_7 := Ro [Fa 32 3 t3,Ld 33 none t32,Cv 34 .i64 t33]
abbrev C76_8 := Ro [Bn 36 .eql t34 (kI 11),As 35 t36]
abbrev C76_9 := Ro [Mv 38 t6,Ca 39 97 [t38,(kI 8)],Mv 37 t39,Ex 40 0 t37,Ex 41 1 t37,As 6 t40]
abbrev C76_10 := Ro [Bn 43 .eql t34 (kI 12),As 42 t43]
abbrev C76_11 := Ro [Mv 45 t6,Ca 46 97 [t45,(kI 16)],Mv 44 t46,Ex 47 0 t44,Ex 48 1 t44,As 6 t47]
abbrev C76_12 := Cd t42 C76_11 .skip
abbrev C76_13 := Sq [6,42] C76_10 C76_12
abbrev C76_14 := Cd t35 C76_9 C76_13
abbrev C76_15 := Sq [6,34,35] C76_8 C76_14
abbrev C76_16 := Bk 0 C76_15
abbrev C76_17 := Sq [6,34] C76_7 C76_16
abbrev C76_18 := Ro [Mv 49 t6,As 4 t49,As 5 (kI (-1))]
abbrev C76_19 := Sq [4,5] C76_18 .ret
abbrev C76_20 := Sq [6] C76_17 C76_19
abbrev C76_21 := Sq [3,6] C76_6 C76_20
abbrev C76_22 := Sq [3,6,7] C76_1 C76_21
abbrev C76_23 := Sq [0,3] C76_0 C76_22
abbrev C76 := C76_23
abbrev C76r : List RV := [.t 4,.t 5]
theorem C76ok : Okf Tryz.prog 76 Tryz.f76 C76 C76r := ⟨Tryz.func76, by kernel_rfl, by kernel_rfl, by kernel_rfl⟩

/-- (*mimesis/eval.frame).store -/
abbrev C77_0 := Ro [Br 3 t1,As 4 (kI 0)]
abbrev C77_1 := Dr [Mv 8 t0,Nc 9 t8,Fa 10 33 t9,Ld 11 none t10,Mv 12 t0,Nc 13 t12,Fa 14 34 t13,Ld 15 none t14,Fa 16 1 t3,Ld 17 none t16,Ix 18 1 t15 t17,Ld 19 none t18,Fa 20 3 t3,Ld 21 none t20,Cv 22 .i64 t21,Ca 23 98 [t22],Mv 24 t0,Nc 25 t24,Fa 26 34 t25,Ld 27 none t26,Fa 28 2 t3,Ld 29 none t28,Ix 30 1 t27 t29,Ld 31 none t30,Ca 32 26 [t11,t19,t23,t31],Mv 7 t32,Ex 33 0 t7,Ex 34 1 t7,As 5 t33,As 6 t34] [[],[0],[1],[2],[],[4],[5],[6],[],[8],[7,9],[10],[],[12],[13],[14],[],[16],[17],[18],[],[20],[19,21],[22],[3,11,15,23,15],[24],[25],[25],[26,24,0,1,2,3,4,5,6,7,8,9,10,11,12,13,14,15,16,17,18,19,20,21,22,23,24,25,26],[27,28,0,1,2,3,4,5,6,7,8,9,10,11,12,13,14,15,16,17,18,19,20,21,22,23,24,25,26,27,28]] [(0,[]),(1,[]),(2,[]),(3,[]),(4,[]),(5,[]),(6,[]),(7,[]),(8,[]),(9,[]),(10,[]),(11,[]),(12,[]),(13,[]),(14,[]),(16,[]),(17,[]),(18,[]),(19,[]),(20,[]),(21,[]),(22,[]),(23,[]),(15,[0,1,2,3,4,5,6,7,8,9,10,11,16,17,18,19,20,21,22,23]),(24,[]),(25,[]),(26,[]),(27,[]),(28,[27]),(29,[])]
abbrev C77_2 := Ro [Mv 36 t6,Bn 37 .neq t36 (kI 0),As 35 t37]
abbrev C77_3 := Ro [Fa 38 4 t3,Ld 39 none t38,As 4 t39]
abbrev C77_4 := Sq [4] C77_3 .ret
abbrev C77_5 := Ro [Mv 41 t5,As 40 t41]
abbrev C77_6 := Ro [Fa 42 5 t3,Ld 43 none t42,As 4 t43]
abbrev C77_7 := Sq [4] C77_6 .ret
abbrev C77_8 := Cd t40 C77_7 .skip
abbrev C77_9 := Sq [3,40] C77_5 C77_8
abbrev C77_10 := Cd t35 C77_4 C77_9
abbrev C77_11 := Sq [3,5,35] C77_2 C77_10
abbrev C77_12 := Bk 0 C77_11
abbrev C77_13 := Ro [As 4 (kI (-1))]
abbrev C77_14 := Sq [4] C77_13 .ret
abbrev C77_15 := Sq [] C77_12 C77_14
abbrev C77_16 := Sq [3,5,6] C77_1 C77_15
abbrev C77_17 := Sq [0,3] C77_0 C77_16
abbrev C77 := C77_17
abbrev C77r : List RV := [.t 4]
theorem C77ok : Okf Tryz.prog 77 Tryz.f77 C77 C77r := ⟨Tryz.func77, by kernel_rfl, by kernel_rfl, by kernel_rfl⟩

/-- mimesis/alu.Taken -/
abbrev C78_0 := Ro [As 6 kF,As 7 (kI 0)]
abbrev C78_1 := Ro [Mv 8 t0]
abbrev C78_2 := Ro [Bn 10 .eql t8 (kI 5),As 9 t10]
abbrev C78_3 := Ro [Mv 11 t1,Mv 12 t2,Bn 13 .eql t11 t12,As 6 t13,As 7 (kI 0)]
abbrev C78_4 := Sq [6,7] C78_3 .ret
abbrev C78_5 := Ro [Bn 15 .eql t8 (kI 6),As 14 t15]
abbrev C78_6 := Ro [Mv 16 t1,Mv 17 t2,Bn 18 .neq t16 t17,As 6 t18,As 7 (kI 0)]
abbrev C78_7 := Sq [6,7] C78_6 .ret
abbrev C78_8 := Ro [Bn 20 .eql t8 (kI 7),As 19 t20]
abbrev C78_9 := Ro [Mv 21 t1,Cv 22 .i32 t21,Mv 23 t2,Cv 24 .i32 t23,Bn 25 .lss t22 t24,As 6 t25,As 7 (kI 0)]
abbrev C78_10 := Sq [6,7] C78_9 .ret
abbrev C78_11 := Ro [Bn 27 .eql t8 (kI 8),As 26 t27]
abbrev C78_12 := Ro [Mv 28 t1,Cv 29 .i32 t28,Mv 30 t2,Cv 31 .i32 t30,Bn 32 .geq t29 t31,As 6 t32,As 7 (kI 0)]
abbrev C78_13 := Sq [6,7] C78_12 .ret
abbrev C78_14 := Ro [Bn 34 .eql t8 (kI 9),As 33 t34]
abbrev C78_15 := Ro [Mv 35 t1,Mv 36 t2,Bn 37 .lss t35 t36,As 6 t37,As 7 (kI 0)]
abbrev C78_16 := Sq [6,7] C78_15 .ret
abbrev C78_17 := Ro [Bn 39 .eql t8 (kI 10),As 38 t39]
abbrev C78_18 := Ro [Mv 40 t1,Mv 41 t2,Bn 42 .geq t40 t41,As 6 t42,As 7 (kI 0)]
abbrev C78_19 := Sq [6,7] C78_18 .ret
abbrev C78_20 := Cd t38 C78_19 .skip
abbrev C78_21 := Sq [1,2,38] C78_17 C78_20
abbrev C78_22 := Cd t33 C78_16 C78_21
abbrev C78_23 := Sq [1,2,8,33] C78_14 C78_22
abbrev C78_24 := Cd t26 C78_13 C78_23
abbrev C78_25 := Sq [1,2,8,26] C78_11 C78_24
abbrev C78_26 := Cd t19 C78_10 C78_25
abbrev C78_27 := Sq [1,2,8,19] C78_8 C78_26
abbrev C78_28 := Cd t14 C78_7 C78_27
abbrev C78_29 := Sq [1,2,8,14] C78_5 C78_28
abbrev C78_30 := Cd t9 C78_4 C78_29
abbrev C78_31 := Sq [1,2,8,9] C78_2 C78_30
abbrev C78_32 := Bk 0 C78_31
abbrev C78_33 := Sq [1,2,8] C78_1 C78_32
abbrev C78_34 := Ro [As 6 kF,As 7 (kI 9)]
abbrev C78_35 := Sq [6,7] C78_34 .ret
abbrev C78_36 := Sq [] C78_33 C78_35
abbrev C78_37 := Sq [0,1,2] C78_0 C78_36
abbrev C78 := C78_37
abbrev C78r : List RV := [.t 6,.t 7]
theorem C78ok : Okf Tryz.prog 78 Tryz.f78 C78 C78r := ⟨Tryz.func78, by kernel_rfl, by kernel_rfl, by kernel_rfl⟩

/-- mimesis/eval.Pure -/
abbrev C79_0 := Ro [Br 3 t0,As 6 (kU 0),As 7 kF]
abbrev C79_1 := Ro [Fa 11 0 t3,Ld 12 none t11,Bn 13 .eql t12 (kI 2),As 10 t13]
abbrev C79_2 := Ro [Fa 14 3 t3,Ld 15 none t14,As 6 t15,As 7 kT]
abbrev C79_3 := Sq [6,7] C79_2 .ret
abbrev C79_4 := Ro [Fa 17 0 t3,Ld 18 none t17,Bn 19 .neq t18 (kI 3),Mv 20 t19,Faf 21 20 3 t3,Ldf 22 20 none t21,Cvf 23 20 .i64 t22,Caf 24 20 99 [t23],Unf 25 20 .not t24,Pk 26 t20 kT t25,As 16 t26]
abbrev C79_5 := Ro [As 6 (kU 0),As 7 kF]
abbrev C79_6 := Sq [6,7] C79_5 .ret
abbrev C79_7 := Cd t16 C79_6 .skip
abbrev C79_8 := Sq [1,2,3,16] C79_4 C79_7
abbrev C79_9 := Cd t10 C79_3 C79_8
abbrev C79_10 := Sq [1,2,3,10] C79_1 C79_9
abbrev C79_11 := Bk 0 C79_10
abbrev C79_12 := Ro [Fa 28 3 t3,Ld 29 none t28,Cv 30 .i64 t29,Mv 31 t1,Mv 32 t2,Ca 33 100 [t30,t31,t32],Mv 27 t33,Ex 34 0 t27,Ex 35 1 t27,As 8 t34,As 9 t35]
abbrev C79_13 := Ro [Mv 36 t9,Bn 37 .neq t36 (kI 0)]
abbrev C79_14 := Ro [Fa 39 3 t3,Ld 40 none t39,Cv 41 .i64 t40,Mv 42 t1,Mv 43 t2,Ca 44 101 [t41,t42,t43],Mv 38 t44,Ex 45 0 t38,Ex 46 1 t38,As 8 t45,As 9 t46]
abbrev C79_15 := Cd t37 C79_14 .skip
abbrev C79_16 := Sq [1,2,3,8,9,37] C79_13 C79_15
abbrev C79_17 := Ro [Mv 47 t8,Mv 48 t9,Bn 49 .eql t48 (kI 0),As 6 t47,As 7 t49]
abbrev C79_18 := Sq [6,7] C79_17 .ret
abbrev C79_19 := Sq [8,9] C79_16 C79_18
abbrev C79_20 := Sq [1,2,3,8,9] C79_12 C79_19
abbrev C79_21 := Sq [1,2,3] C79_11 C79_20
abbrev C79_22 := Sq [1,2,3] C79_0 C79_21
abbrev C79 := C79_22
abbrev C79r : List RV := [.t 6,.t 7]
theorem C79ok : Okf Tryz.prog 79 Tryz.f79 C79 C79r := ⟨Tryz.func79, by kernel_rfl, by kernel_rfl, by kernel_rfl⟩

/-- mimesis/word.width -/
abbrev C80_0 := Ro [As 2 kF]
abbrev C80_1 := Ro [Mv 3 t0,Bn 4 .eql t3 (kI 1),Mv 5 t4,Mvf 6 5 t0,Bnf 7 5 .eql t6 (kI 2),Pk 8 t5 kT t7,Mv 9 t8,Mvf 10 9 t0,Bnf 11 9 .eql t10 (kI 4),Pk 12 t9 kT t11,As 2 t12]
abbrev C80_2 := Sq [2] C80_1 .ret
abbrev C80_3 := Sq [0] C80_0 C80_2
abbrev C80 := C80_3
abbrev C80r : List RV := [.t 2]
theorem C80ok : Okf Tryz.prog 80 Tryz.f80 C80 C80r := ⟨Tryz.func80, by kernel_rfl, by kernel_rfl, by kernel_rfl⟩

/-- mimesis/mimesisref15.long -/
abbrev C81_0 := Ro [As 2 kF]
abbrev C81_1 := Ro [As 3 (kI 0)]
abbrev C81_2 := Ro [As 4 (kI 0)]
abbrev C81_3 := Ro [Mv 5 t4,Mv 6 t0,Ln 7 t6,Bn 8 .lss t5 t7]
abbrev C81_4 := Cd t8 .skip (.exit 0)
abbrev C81_5 := Sq [0,3,4,8] C81_3 C81_4
abbrev C81_6 := Ro [Mv 11 t3,Mv 12 t0,Mv 13 t4,Ix 14 2 t12 t13,Fa 15 1 t14,Ld 16 none t15,Ln 17 t16,⟨(some 18),none,.r (.mm false t17 (kI 100000))⟩,Bn 19 .add t11 t18,As 3 t19]
abbrev C81_7 := Ro [Mv 20 t4,Bn 21 .geq t20 (kI 1024),Mv 22 t21,Mvf 23 22 t3,Bnf 24 22 .gtr t23 (kI 65536),Pk 25 t22 kT t24]
abbrev C81_8 := Ro [As 2 kT]
abbrev C81_9 := Sq [2] C81_8 .ret
abbrev C81_10 := Cd t25 C81_9 .skip
abbrev C81_11 := Sq [0,3,4,25] C81_7 C81_10
abbrev C81_12 := Sq [0,3,4] C81_6 C81_11
abbrev C81_13 := Bk 1 C81_12
abbrev C81_14 := Ro [Mv 9 t4,Bn 10 .add t9 (kI 1),As 4 t10]
abbrev C81_15 := Sq [0,3,4] C81_13 C81_14
abbrev C81_16 := Sq [0,3,4] C81_5 C81_15
abbrev C81_17 : ACode := .loop C81_16
abbrev C81_18 := Bk 0 C81_17
abbrev C81_19 := Sq [0,3,4] C81_2 C81_18
abbrev C81_20 := Ro [As 2 kF]
abbrev C81_21 := Sq [2] C81_20 .ret
abbrev C81_22 := Sq [] C81_19 C81_21
abbrev C81_23 := Sq [0,3] C81_1 C81_22
abbrev C81_24 := Sq [0] C81_0 C81_23
abbrev C81 := C81_24
abbrev C81r : List RV := [.t 2]
theorem C81ok : Okf Tryz.prog 81 Tryz.f81 C81 C81r := ⟨Tryz.func81, by kernel_rfl, by kernel_rfl, by kernel_rfl⟩

/-- mimesis/mimesisref10.Has -/
abbrev C82_0 := Ro [As 6 kF]
abbrev C82_1 := Ro [Mv 8 t1,Cv 9 .i64 t8,Bn 10 .sub t9 (kI 2147483648),As 7 t10]
abbrev C82_2 := Ro [Mv 11 t2,Bn 12 .geq t11 (kI 1),Mv 13 t12,Mvt 14 13 t7,Bnt 15 13 .geq t14 (kI 0),Pk 16 t13 t15 kF,Mv 17 t16,Mvt 18 17 t2,Mvt 19 17 t0,Lnt 20 17 t19,Bnt 21 17 .leq t18 t20,Pk 22 t17 t21 kF,Mv 23 t22,Mvt 24 23 t7,Mvt 25 23 t0,Lnt 26 23 t25,Mvt 27 23 t2,Bnt 28 23 .sub t26 t27,Bnt 29 23 .leq t24 t28,Pk 30 t23 t29 kF,As 6 t30]
abbrev C82_3 := Sq [6] C82_2 .ret
abbrev C82_4 := Sq [0,2,7] C82_1 C82_3
abbrev C82_5 := Sq [0,1,2] C82_0 C82_4
abbrev C82 := C82_5
abbrev C82r : List RV := [.t 6]
theorem C82ok : Okf Tryz.prog 82 Tryz.f82 C82 C82r := ⟨Tryz.func82, by kernel_rfl, by kernel_rfl, by kernel_rfl⟩

/-- mimesis/mimesisref09.Place -/
abbrev C83_0 := Ro [As 2 (kI 0)]
abbrev C83_1 := Ro [Ca 5 102 [],As 3 t5]
abbrev C83_2 := Ro [As 4 (kI 0)]
abbrev C83_3 := Ro [Mv 6 t4,Mv 7 t3,Ln 8 t7,Bn 9 .lss t6 t8]
abbrev C83_4 := Cd t9 .skip (.exit 0)
abbrev C83_5 := Sq [0,3,4,9] C83_3 C83_4
abbrev C83_6 := Ro [Mv 12 t3,Mv 13 t4,Ix 14 1 t12 t13,Ld 15 none t14,Mv 16 t0,Bn 17 .eql t15 t16]
abbrev C83_7 := Ro [Mv 18 t4,As 2 t18]
abbrev C83_8 := Sq [2] C83_7 .ret
abbrev C83_9 := Cd t17 C83_8 .skip
abbrev C83_10 := Sq [0,3,4,17] C83_6 C83_9
abbrev C83_11 := Bk 1 C83_10
abbrev C83_12 := Ro [Mv 10 t4,Bn 11 .add t10 (kI 1),As 4 t11]
abbrev C83_13 := Sq [0,3,4] C83_11 C83_12
abbrev C83_14 := Sq [0,3,4] C83_5 C83_13
abbrev C83_15 : ACode := .loop C83_14
abbrev C83_16 := Bk 0 C83_15
abbrev C83_17 := Sq [0,3,4] C83_2 C83_16
abbrev C83_18 := Ro [As 2 (kI (-1))]
abbrev C83_19 := Sq [2] C83_18 .ret
abbrev C83_20 := Sq [] C83_17 C83_19
abbrev C83_21 := Sq [0,3] C83_1 C83_20
abbrev C83_22 := Sq [0] C83_0 C83_21
abbrev C83 := C83_22
abbrev C83r : List RV := [.t 2]
theorem C83ok : Okf Tryz.prog 83 Tryz.f83 C83 C83r := ⟨Tryz.func83, by kernel_rfl, by kernel_rfl, by kernel_rfl⟩

/-- mimesis/mimesisref09.Kept -/
abbrev C84_0 := Ro [As 0 kS]
abbrev C84_1 := Ro [⟨(some 1),none,.e (.bsr 23 [z4,z4,z4,z4,z4,z4,z4,z4,z4,z4,z4,z4,z4,z4,z4,z4,z4,z4,z4,z4,z4,z4,z4] [(0,1,(kU 136)),(1,1,(kU 0)),(2,1,(kU 2184)),(3,1,(kU 4294967293)),(4,1,(kU 4294967295)),(5,1,(kU 4294967292)),(6,1,(kU 4294967295)),(7,1,(kU 4294967295)),(8,1,(kU 0)),(9,1,(kU 4294967295)),(10,1,(kU 4294967295)),(11,1,(kU 4294967295)),(12,1,(kU 4294967295)),(13,1,(kU 0)),(14,1,(kU 0)),(15,1,(kU 0)),(16,1,(kU 0)),(17,1,(kU 0)),(18,1,(kU 0)),(19,1,(kU 0)),(20,1,(kU 0)),(21,1,(kU 0)),(22,1,(kU 0))])⟩,As 0 t1]
abbrev C84_2 := Sq [0] C84_1 .ret
abbrev C84_3 := Sq [] C84_0 C84_2
abbrev C84 := C84_3
abbrev C84r : List RV := [.t 0]
theorem C84ok : Okf Tryz.prog 84 Tryz.f84 C84 C84r := ⟨Tryz.func84, by kernel_rfl, by kernel_rfl, by kernel_rfl⟩

/-- mimesis/mimesisref09.Fixed -/
abbrev C85_0 := Ro [As 0 kS]
abbrev C85_1 := Ro [⟨(some 1),none,.e (.bsr 23 [z4,z4,z4,z4,z4,z4,z4,z4,z4,z4,z4,z4,z4,z4,z4,z4,z4,z4,z4,z4,z4,z4,z4] [(0,1,(kU 6144)),(1,1,(kU 1073746176)),(2,1,(kU 0)),(3,1,(kU 0)),(4,1,(kU 0)),(5,1,(kU 0)),(6,1,(kU 0)),(7,1,(kU 0)),(8,1,(kU 0)),(9,1,(kU 0)),(10,1,(kU 0)),(11,1,(kU 0)),(12,1,(kU 0)),(13,1,(kU 0)),(14,1,(kU 0)),(15,1,(kU 0)),(16,1,(kU 0)),(17,1,(kU 0)),(18,1,(kU 0)),(19,1,(kU 0)),(20,1,(kU 0)),(21,1,(kU 0)),(22,1,(kU 0))])⟩,As 0 t1]
abbrev C85_2 := Sq [0] C85_1 .ret
abbrev C85_3 := Sq [] C85_0 C85_2
abbrev C85 := C85_3
abbrev C85r : List RV := [.t 0]
theorem C85ok : Okf Tryz.prog 85 Tryz.f85 C85 C85r := ⟨Tryz.func85, by kernel_rfl, by kernel_rfl, by kernel_rfl⟩

/-- mimesis/image.long -/
abbrev C86_0 := Ro [As 2 kF]
abbrev C86_1 := Ro [Mv 6 t0,Ln 7 t6,Bn 8 .gtr t7 (kI 1024)]
abbrev C86_2 := Ro [As 2 kT]
abbrev C86_3 := Sq [2] C86_2 .ret
abbrev C86_4 := Cd t8 C86_3 .skip
abbrev C86_5 := Sq [0,8] C86_1 C86_4
abbrev C86_6 := Ro [As 3 (kI 0)]
abbrev C86_7 := Ro [Mv 9 t0,Ln 10 t9,Mv 11 (kI 0)]
abbrev C86_8 := Ro [Bn 12 .lss t11 t10]
abbrev C86_9 := Cd t12 .skip (.exit 0)
abbrev C86_10 := Ro [Ix 13 2 t9 t11,Ld 14 (some 2) t13,Al 5 [.int .u32 0,.nils],Sxn 2 t5 t14]
abbrev C86_11 := Ro [Fa 15 1 t5,Ld 16 none t15,Ln 17 t16,Mv 18 t3,Bn 19 .sub (kI 65536) t18,Bn 20 .gtr t17 t19]
abbrev C86_12 := Ro [As 2 kT]
abbrev C86_13 := Sq [2] C86_12 .ret
abbrev C86_14 := Cd t20 C86_13 .skip
abbrev C86_15 := Sq [3,5,9,10,11,20] C86_11 C86_14
abbrev C86_16 := Ro [Mv 21 t3,Fa 22 1 t5,Ld 23 none t22,Ln 24 t23,Bn 25 .add t21 t24,As 3 t25]
abbrev C86_17 := Sq [3,5,9,10,11] C86_15 C86_16
abbrev C86_18 : ACode := .fz 5 C86_17
abbrev C86_19 := Sq [3,5,9,10,11] C86_10 C86_18
abbrev C86_20 := Bk 1 C86_19
abbrev C86_21 := Ro [Bn 26 .add t11 (kI 1),Mv 11 t26]
abbrev C86_22 := Sq [3,9,10,11] C86_20 C86_21
abbrev C86_23 := Sq [3,9,10,11] C86_9 C86_22
abbrev C86_24 := Sq [3,9,10,11,12] C86_8 C86_23
abbrev C86_25 : ACode := .loop C86_24
abbrev C86_26 := Bk 0 C86_25
abbrev C86_27 := Sq [3,9,10,11] C86_7 C86_26
abbrev C86_28 := Ro [As 2 kF]
abbrev C86_29 := Sq [2] C86_28 .ret
abbrev C86_30 := Sq [] C86_27 C86_29
abbrev C86_31 := Sq [0,3] C86_6 C86_30
abbrev C86_32 := Sq [0] C86_5 C86_31
abbrev C86_33 := Sq [0] C86_0 C86_32
abbrev C86 := C86_33
abbrev C86r : List RV := [.t 2]
theorem C86ok : Okf Tryz.prog 86 Tryz.f86 C86 C86r := ⟨Tryz.func86, by kernel_rfl, by kernel_rfl, by kernel_rfl⟩

/-- mimesis/image.inside -/
abbrev C87_0 := Ro [Br 2 t0,As 4 kF]
abbrev C87_1 := Ro [Fa 5 1 t2,Ld 6 none t5,Ln 7 t6,Bn 8 .eql t7 (kI 0)]
abbrev C87_2 := Ro [As 4 kT]
abbrev C87_3 := Sq [4] C87_2 .ret
abbrev C87_4 := Cd t8 C87_3 .skip
abbrev C87_5 := Sq [1,2,8] C87_1 C87_4
abbrev C87_6 := Ro [Fa 9 0 t2,Ld 10 none t9,Bn 11 .geq t10 (kU 2147483648),Mv 12 t11,Fat 13 12 1 t2,Ldt 14 12 none t13,Lnt 15 12 t14,Mvt 16 12 t1,Bnt 17 12 .leq t15 t16,Pk 18 t12 t17 kF,Mv 19 t18,Fat 20 19 0 t2,Ldt 21 19 none t20,Bnt 22 19 .sub t21 (kU 2147483648),Cvt 23 19 .i64 t22,Mvt 24 19 t1,Fat 25 19 1 t2,Ldt 26 19 none t25,Lnt 27 19 t26,Bnt 28 19 .sub t24 t27,Bnt 29 19 .leq t23 t28,Pk 30 t19 t29 kF,As 4 t30]
abbrev C87_7 := Sq [4] C87_6 .ret
abbrev C87_8 := Sq [1,2] C87_5 C87_7
abbrev C87_9 := Sq [1,2] C87_0 C87_8
abbrev C87 := C87_9
abbrev C87r : List RV := [.t 4]
theorem C87ok : Okf Tryz.prog 87 Tryz.f87 C87 C87r := ⟨Tryz.func87, by kernel_rfl, by kernel_rfl, by kernel_rfl⟩

/-- (mimesis/ir.judge).op -/
abbrev C88_0 := Ro [Br 2 t0,As 4 kF]
abbrev C88_1 := Ro [Fa 8 0 t2,Ld 9 none t8,Nc 10 t9,Fa 11 1 t10,Ld 12 none t11,Mv 13 t1,Ix 14 6 t12 t13,Ld 15 (some 6) t14,Al 5 [zi,zi,zi,z4,zi,zi],Sxn 6 t5 t15]
abbrev C88_2 := Ro [Ld 16 (some 6) t5,Ca 17 103 [t16],Un 18 .not t17,Mv 19 t18,Ldf 20 19 (some 6) t5,Caf 21 19 104 [t20],Unf 22 19 .not t21,Pk 23 t19 kT t22]
abbrev C88_3 := Ro [As 4 kF]
abbrev C88_4 := Sq [4] C88_3 .ret
abbrev C88_5 := Cd t23 C88_4 .skip
abbrev C88_6 := Sq [1,2,5,23] C88_2 C88_5
abbrev C88_7 := Ro [Ld 24 (some 6) t5,Ca 25 105 [t24],Ln 26 t25,Mv 27 (kI 0)]
abbrev C88_8 := Ro [Bn 28 .lss t27 t26]
abbrev C88_9 := Cd t28 .skip (.exit 0)
abbrev C88_10 := Ro [Ix 29 1 t25 t27,Ld 30 none t29,As 7 t30]
abbrev C88_11 := Ro [Ld 31 (some 1) t2,Mv 32 t7,Mv 33 t1,Ca 34 106 [t31,t32,t33],Un 35 .not t34]
abbrev C88_12 := Ro [As 4 kF]
abbrev C88_13 := Sq [4] C88_12 .ret
abbrev C88_14 := Cd t35 C88_13 .skip
abbrev C88_15 := Sq [1,2,5,25,26,27,35] C88_11 C88_14
abbrev C88_16 := Sq [1,2,5,7,25,26,27] C88_10 C88_15
abbrev C88_17 := Bk 1 C88_16
abbrev C88_18 := Ro [Bn 36 .add t27 (kI 1),Mv 27 t36]
abbrev C88_19 := Sq [1,2,5,25,26,27] C88_17 C88_18
abbrev C88_20 := Sq [1,2,5,25,26,27] C88_9 C88_19
abbrev C88_21 := Sq [1,2,5,25,26,27,28] C88_8 C88_20
abbrev C88_22 : ACode := .loop C88_21
abbrev C88_23 := Bk 0 C88_22
abbrev C88_24 := Sq [1,2,5,25,26,27] C88_7 C88_23
abbrev C88_25 := Ro [Fa 37 0 t5,Ld 38 none t37]
abbrev C88_26 := Ro [Bn 40 .eql t38 (kI 5),As 39 t40]
abbrev C88_27 := Ro [Ld 41 (some 1) t2,Fa 42 4 t5,Ld 43 none t42,Mv 44 t1,Ca 45 92 [t41,t43,t44],Mv 46 t45,Ldt 47 46 (some 1) t2,Fat 48 46 5 t5,Ldt 49 46 none t48,Mvt 50 46 t1,Cat 51 46 92 [t47,t49,t50],Pk 52 t46 t51 kF,As 4 t52]
abbrev C88_28 := Sq [4] C88_27 .ret
abbrev C88_29 := Ro [Bn 54 .eql t38 (kI 4),As 53 t54]
abbrev C88_30 := Ro [Bn 55 .eql t38 (kI 6),As 53 t55]
abbrev C88_31 := Cd t53 .skip C88_30
abbrev C88_32 := Sq [1,2,5,38,53] C88_29 C88_31
abbrev C88_33 := Ro [Ld 56 (some 1) t2,Fa 57 4 t5,Ld 58 none t57,Mv 59 t1,Ca 60 92 [t56,t58,t59],As 4 t60]
abbrev C88_34 := Sq [4] C88_33 .ret
abbrev C88_35 := Cd t53 C88_34 .skip
abbrev C88_36 := Sq [1,2,5,53] C88_32 C88_35
abbrev C88_37 := Cd t39 C88_28 C88_36
abbrev C88_38 := Sq [1,2,5,38,39] C88_26 C88_37
abbrev C88_39 := Bk 2 C88_38
abbrev C88_40 := Sq [1,2,5,38] C88_25 C88_39
abbrev C88_41 := Ro [As 4 kT]
abbrev C88_42 := Sq [4] C88_41 .ret
abbrev C88_43 := Sq [] C88_40 C88_42
abbrev C88_44 := Sq [1,2,5] C88_24 C88_43
abbrev C88_45 := Sq [1,2,5] C88_6 C88_44
abbrev C88_46 : ACode := .fz 5 C88_45
abbrev C88_47 := Sq [1,2,5] C88_1 C88_46
abbrev C88_48 := Sq [1,2] C88_0 C88_47
abbrev C88 := C88_48
abbrev C88r : List RV := [.t 4]
theorem C88ok : Okf Tryz.prog 88 Tryz.f88 C88 C88r := ⟨Tryz.func88, by kernel_rfl, by kernel_rfl, by kernel_rfl⟩

/-- (mimesis/ir.judge).leaves -/
abbrev C89_0 := Ro [Br 2 t0,As 4 kF]
abbrev C89_1 := Ro [Fa 9 0 t2,Ld 10 none t9,Nc 11 t10,Fa 12 2 t11,Ld 13 none t12,Mv 14 t1,Ix 15 5 t13 t14,Ld 16 (some 5) t15,Al 5 [zi,z4,zi,zi,.nils],Sxn 5 t5 t16]
abbrev C89_2 := Dr [Ld 17 (some 1) t2,Mv 18 t1,Fa 19 0 t2,Ld 20 none t19,Nc 21 t20,Fa 22 1 t21,Ld 23 none t22,Ln 24 t23,Ca 25 92 [t17,t18,t24],Un 26 .not t25,Mv 27 t26,Faf 28 27 0 t5,Ldf 29 27 none t28,Bnf 30 27 .lss t29 (kI 0),Pk 31 t27 kT t30,Mv 32 t31,Faf 33 32 0 t5,Ldf 34 32 none t33,Faf 35 32 0 t2,Ldf 36 32 none t35,Ncf 37 32 t36,Faf 38 32 0 t37,Ldf 39 32 none t38,Lnf 40 32 t39,Bnf 41 32 .gtr t34 t40,Pk 42 t32 kT t41,Mv 43 t42,Faf 44 43 1 t5,Ldf 45 43 none t44,Bnf 46 43 .rem t45 (kU 4),Bnf 47 43 .neq t46 (kU 0),Pk 48 t43 kT t47,Mv 49 t48,Faf 50 49 3 t5,Ldf 51 49 none t50,Bnf 52 49 .lss t51 (kI 1),Pk 53 t49 kT t52,Mv 54 t53,Faf 55 54 3 t5,Ldf 56 54 none t55,Bnf 57 54 .gtr t56 (kI 4),Pk 58 t54 kT t57] [[],[],[],[2],[3],[4],[5],[6],[0,1,7],[8],[9,8],[10],[11,10],[12,10],[10,13],[14,10],[15],[16,15],[15],[18,15],[19,15],[20,15],[21,15],[22,15],[17,23,15],[15,24],[25,15],[26],[27,26],[28,26],[29,26],[26,30],[31,26],[32],[33,32],[34,32],[32,35],[36,32],[37],[38,37],[39,37],[37,40]] [(0,[]),(1,[]),(2,[]),(3,[]),(4,[]),(5,[]),(6,[]),(7,[]),(8,[]),(9,[]),(10,[]),(11,[]),(12,[]),(13,[]),(14,[]),(15,[]),(16,[]),(17,[]),(18,[]),(19,[]),(20,[]),(21,[]),(22,[]),(23,[]),(24,[]),(25,[]),(26,[]),(27,[]),(28,[]),(29,[]),(30,[]),(31,[]),(32,[]),(33,[]),(34,[]),(35,[]),(36,[]),(37,[]),(38,[]),(39,[]),(40,[]),(41,[])]
abbrev C89_3 := Ro [As 4 kF]
abbrev C89_4 := Sq [4] C89_3 .ret
abbrev C89_5 := Cd t58 C89_4 .skip
abbrev C89_6 := Sq [5,58] C89_2 C89_5
abbrev C89_7 := Ro [As 6 (kI 0)]
abbrev C89_8 := Ro [Fa 59 4 t5,Ld 60 none t59,Ln 61 t60,Mv 62 (kI 0)]
abbrev C89_9 := Ro [Bn 63 .lss t62 t61]
abbrev C89_10 := Cd t63 .skip (.exit 0)
abbrev C89_11 := Ro [Ix 64 2 t60 t62,Ld 65 (some 2) t64,Al 8 [.int .i64 0,.int .i64 0],Sxn 2 t8 t65]
abbrev C89_12 := Ro [Fa 66 0 t8,Ld 67 none t66,Mv 68 t6,Bn 69 .leq t67 t68,Mv 70 t69,Faf 71 70 0 t8,Ldf 72 70 none t71,Bnf 73 70 .gtr t72 (kI 31),Pk 74 t70 kT t73]
abbrev C89_13 := Ro [As 4 kF]
abbrev C89_14 := Sq [4] C89_13 .ret
abbrev C89_15 := Cd t74 C89_14 .skip
abbrev C89_16 := Sq [8,60,61,62,74] C89_12 C89_15
abbrev C89_17 := Ro [Fa 75 0 t8,Ld 76 none t75,As 6 t76]
abbrev C89_18 := Sq [8,60,61,62] C89_16 C89_17
abbrev C89_19 : ACode := .fz 8 C89_18
abbrev C89_20 := Sq [6,8,60,61,62] C89_11 C89_19
abbrev C89_21 := Bk 1 C89_20
abbrev C89_22 := Ro [Bn 77 .add t62 (kI 1),Mv 62 t77]
abbrev C89_23 := Sq [6,60,61,62] C89_21 C89_22
abbrev C89_24 := Sq [6,60,61,62] C89_10 C89_23
abbrev C89_25 := Sq [6,60,61,62,63] C89_9 C89_24
abbrev C89_26 : ACode := .loop C89_25
abbrev C89_27 := Bk 0 C89_26
abbrev C89_28 := Sq [6,60,61,62] C89_8 C89_27
abbrev C89_29 := Ro [As 4 kT]
abbrev C89_30 := Sq [4] C89_29 .ret
abbrev C89_31 := Sq [] C89_28 C89_30
abbrev C89_32 := Sq [5,6] C89_7 C89_31
abbrev C89_33 := Sq [5] C89_6 C89_32
abbrev C89_34 : ACode := .fz 5 C89_33
abbrev C89_35 := Sq [1,2,5] C89_1 C89_34
abbrev C89_36 := Sq [1,2] C89_0 C89_35
abbrev C89 := C89_36
abbrev C89r : List RV := [.t 4]
theorem C89ok : Okf Tryz.prog 89 Tryz.f89 C89 C89r := ⟨Tryz.func89, by kernel_rfl, by kernel_rfl, by kernel_rfl⟩

/-- (mimesis/ir.judge).right$1 -/
abbrev C90_0 := Ro [As 2 kF]
abbrev C90_1 := Ro [Mv 3 t0,Bn 4 .rem t3 (kU 4),Bn 5 .neq t4 (kU 0),As 2 t5]
abbrev C90_2 := Sq [2] C90_1 .ret
abbrev C90_3 := Sq [0] C90_0 C90_2
abbrev C90 := C90_3
abbrev C90r : List RV := [.t 2]
theorem C90ok : Okf Tryz.prog 90 Tryz.f90 C90 C90r := ⟨Tryz.func90, by kernel_rfl, by kernel_rfl, by kernel_rfl⟩

/-- slices.ContainsFunc[[]uint32,uint32] -/
abbrev C91_0 := Ro [As 4 kF]
abbrev C91_1 := Ro [Mv 5 t0,Mv 6 t1,Ca 7 107 [t5,t6],Bn 8 .geq t7 (kI 0),As 4 t8]
abbrev C91_2 := Sq [4] C91_1 .ret
abbrev C91_3 := Sq [0,1] C91_0 C91_2
abbrev C91 := C91_3
abbrev C91r : List RV := [.t 4]
theorem C91ok : Okf Tryz.prog 91 Tryz.f91 C91 C91r := ⟨Tryz.func91, by kernel_rfl, by kernel_rfl, by kernel_rfl⟩

/-- (mimesis/ir.judge).exit -/
abbrev C92_0 := Ro [Br 3 t0,Br 5 t2,As 6 kF]
abbrev C92_1 := Ro [Mv 8 t1,Bn 9 .lss t8 (kI 0),Mv 10 t9,Mvf 11 10 t1,Faf 12 10 0 t3,Ldf 13 10 none t12,Ncf 14 10 t13,Faf 15 10 2 t14,Ldf 16 10 none t15,Lnf 17 10 t16,Bnf 18 10 .geq t11 t17,Pk 19 t10 kT t18]
abbrev C92_2 := Ro [As 6 kF]
abbrev C92_3 := Sq [6] C92_2 .ret
abbrev C92_4 := Cd t19 C92_3 .skip
abbrev C92_5 := Sq [1,3,5,19] C92_1 C92_4
abbrev C92_6 := Ro [Fa 20 0 t3,Ld 21 none t20,Nc 22 t21,Fa 23 2 t22,Ld 24 none t23,Mv 25 t1,Ix 26 5 t24 t25,Ld 27 (some 5) t26,Al 7 [zi,z4,zi,zi,.nils],Sxn 5 t7 t27]
abbrev C92_7 := Ro [Fa 28 2 t7,Ld 29 none t28,Bn 30 .neq t29 (kI (-1)),Mv 31 t30,Ldt 32 31 (some 1) t3,Fat 33 31 2 t7,Ldt 34 31 none t33,Ldt 35 31 none t5,Cat 36 31 106 [t32,t34,t35],Unt 37 31 .not t36,Pk 38 t31 t37 kF]
abbrev C92_8 := Ro [As 6 kF]
abbrev C92_9 := Sq [6] C92_8 .ret
abbrev C92_10 := Cd t38 C92_9 .skip
abbrev C92_11 := Sq [3,5,7,38] C92_7 C92_10
abbrev C92_12 := Ro [Fa 39 4 t7,Ld 40 none t39,⟨(some 41),none,.r (.mkf 109 [] [t3,t5])⟩,Ca 42 108 [t40,t41],Un 43 .not t42,As 6 t43]
abbrev C92_13 := Sq [6] C92_12 .ret
abbrev C92_14 := Sq [3,5,7] C92_11 C92_13
abbrev C92_15 : ACode := .fz 7 C92_14
abbrev C92_16 := Sq [3,5,7] C92_6 C92_15
abbrev C92_17 := Sq [1,3,5] C92_5 C92_16
abbrev C92_18 := Sq [1,3,5] C92_0 C92_17
abbrev C92 := C92_18
abbrev C92r : List RV := [.t 6]
theorem C92ok : Okf Tryz.prog 92 Tryz.f92 C92 C92r := ⟨Tryz.func92, by kernel_rfl, by kernel_rfl, by kernel_rfl⟩

/-- (*mimesis/timer.Timer).Up -/
abbrev C93_0 := Ro [As 4 kF]
abbrev C93_1 := Dr [Mv 5 t0,Ep 6 true t5 kP,Mv 7 t6,Mvt 8 7 t0,Mvt 9 7 t1,Cat 10 7 57 [t8,t9],Mvt 11 7 t0,Nct 12 7 t11,Fat 13 7 1 t12,Ldt 14 7 none t13,Bnt 15 7 .geq t10 t14,Pk 16 t7 t15 kF,As 4 t16] [[],[0],[1],[2],[2],[3,4,2,2],[2],[6,2],[7,2],[8,2],[5,9,2],[2,10],[11,5,0,1,2,3,4,5,6,7,8,9,10,11]] [(0,[]),(1,[]),(2,[]),(3,[]),(4,[]),(6,[]),(7,[]),(8,[]),(9,[]),(5,[6,7,8,9]),(10,[]),(11,[]),(12,[])]
abbrev C93_2 := Sq [4] C93_1 .ret
abbrev C93_3 := Sq [0,1] C93_0 C93_2
abbrev C93 := C93_3
abbrev C93r : List RV := [.t 4]
theorem C93ok : Okf Tryz.prog 93 Tryz.f93 C93 C93r := ⟨Tryz.func93, by kernel_rfl, by kernel_rfl, by kernel_rfl⟩

/-- (*mimesis/console.Console).Ready -/
abbrev C94_0 := Ro [As 2 kF]
abbrev C94_1 := Ro [Mv 3 t0,Ep 4 true t3 kP,Mv 5 t4,Mvt 6 5 t0,Nct 7 5 t6,Fat 8 5 2 t7,Ldt 9 5 none t8,Cat 10 5 110 [t9],Bnt 11 5 .gtr t10 (kI 0),Pk 12 t5 t11 kF,As 2 t12]
abbrev C94_2 := Sq [2] C94_1 .ret
abbrev C94_3 := Sq [0] C94_0 C94_2
abbrev C94 := C94_3
abbrev C94r : List RV := [.t 2]
theorem C94ok : Okf Tryz.prog 94 Tryz.f94 C94 C94r := ⟨Tryz.func94, by kernel_rfl, by kernel_rfl, by kernel_rfl⟩

/-- (*mimesis/ram.Ram).Load -/
abbrev C95_0 := Ro [As 6 (kU 0),As 7 (kI 0)]
abbrev C95_1 := Ro [Mv 9 t0,Mv 10 t1,Mv 11 t2,Ca 12 49 [t9,t10,t11],As 8 t12]
abbrev C95_2 := Ro [Mv 13 t8,Bn 14 .neq t13 (kI 0)]
abbrev C95_3 := Ro [Mv 15 t8,As 6 (kU 0),As 7 t15]
abbrev C95_4 := Sq [6,7] C95_3 .ret
abbrev C95_5 := Cd t14 C95_4 .skip
abbrev C95_6 := Sq [0,1,2,8,14] C95_2 C95_5
abbrev C95_7 := Sq [0,1,2,8] C95_1 C95_6
abbrev C95_8 := Ro [Mv 16 t0,Mv 17 t1,Mv 18 t2,Ca 19 51 [t16,t17,t18],Ca 20 111 [t19],Ex 21 0 t20,Ex 22 1 t20,As 6 t21,As 7 t22]
abbrev C95_9 := Sq [6,7] C95_8 .ret
abbrev C95_10 := Sq [0,1,2] C95_7 C95_9
abbrev C95_11 := Sq [0,1,2] C95_0 C95_10
abbrev C95 := C95_11
abbrev C95r : List RV := [.t 6,.t 7]
theorem C95ok : Okf Tryz.prog 95 Tryz.f95 C95 C95r := ⟨Tryz.func95, by kernel_rfl, by kernel_rfl, by kernel_rfl⟩
end Go.Ab
end
section
/- The code of some functions, with what their types tell written out; each is what the translation gives (kernel_rfl). Printed by mk.py out of the translation. -/
namespace Go.Ab
open Go.Proofs Go.Sc
set_option maxRecDepth 100000
/-- mimesis/inst.Loads -/
abbrev C96_0 := Ro [As 2 (kI 0)]
abbrev C96_1 := Ro [Mv 3 t0]
abbrev C96_2 := Ro [Bn 5 .eql t3 (kI 11),As 4 t5]
abbrev C96_3 := Ro [Bn 6 .eql t3 (kI 14),As 4 t6]
abbrev C96_4 := Cd t4 .skip C96_3
abbrev C96_5 := Sq [3,4] C96_2 C96_4
abbrev C96_6 := Ro [As 2 (kI 1)]
abbrev C96_7 := Sq [2] C96_6 .ret
abbrev C96_8 := Ro [Bn 8 .eql t3 (kI 12),As 7 t8]
abbrev C96_9 := Ro [Bn 9 .eql t3 (kI 15),As 7 t9]
abbrev C96_10 := Cd t7 .skip C96_9
abbrev C96_11 := Sq [3,7] C96_8 C96_10
abbrev C96_12 := Ro [As 2 (kI 2)]
abbrev C96_13 := Sq [2] C96_12 .ret
abbrev C96_14 := Ro [Bn 11 .eql t3 (kI 13),As 10 t11]
abbrev C96_15 := Ro [As 2 (kI 4)]
abbrev C96_16 := Sq [2] C96_15 .ret
abbrev C96_17 := Cd t10 C96_16 .skip
abbrev C96_18 := Sq [10] C96_14 C96_17
abbrev C96_19 := Cd t7 C96_13 C96_18
abbrev C96_20 := Sq [3,7] C96_11 C96_19
abbrev C96_21 := Cd t4 C96_7 C96_20
abbrev C96_22 := Sq [3,4] C96_5 C96_21
abbrev C96_23 := Bk 0 C96_22
abbrev C96_24 := Sq [3] C96_1 C96_23
abbrev C96_25 := Ro [As 2 (kI 0)]
abbrev C96_26 := Sq [2] C96_25 .ret
abbrev C96_27 := Sq [] C96_24 C96_26
abbrev C96_28 := Sq [0] C96_0 C96_27
abbrev C96 := C96_28
abbrev C96r : List RV := [.t 2]
theorem C96ok : Okf Tryz.prog 96 Tryz.f96 C96 C96r := ⟨Tryz.func96, by kernel_rfl, by kernel_rfl, by kernel_rfl⟩

/-- mimesis/word.Extend -/
abbrev C97_0 := Ro [As 4 (kU 0),As 5 (kI 0)]
abbrev C97_1 := Ro [Mv 7 t1,Bn 8 .lss t7 (kI 1),Mv 9 t8,Mvf 10 9 t1,Bnf 11 9 .gtr t10 (kI 32),Pk 12 t9 kT t11]
abbrev C97_2 := Ro [As 4 (kU 0),As 5 (kI 4)]
abbrev C97_3 := Sq [4,5] C97_2 .ret
abbrev C97_4 := Cd t12 C97_3 .skip
abbrev C97_5 := Sq [0,1,12] C97_1 C97_4
abbrev C97_6 := Ro [Mv 13 t1,Bn 14 .sub (kI 32) t13,Cv 15 .u64 t14,As 6 t15]
abbrev C97_7 := Ro [Mv 16 t0,Mv 17 t6,Bn 18 .shl t16 t17,Cv 19 .i32 t18,Mv 20 t6,Bn 21 .shr t19 t20,Cv 22 .u32 t21,As 4 t22,As 5 (kI 0)]
abbrev C97_8 := Sq [4,5] C97_7 .ret
abbrev C97_9 := Sq [0,6] C97_6 C97_8
abbrev C97_10 := Sq [0,1] C97_5 C97_9
abbrev C97_11 := Sq [0,1] C97_0 C97_10
abbrev C97 := C97_11
abbrev C97r : List RV := [.t 4,.t 5]
theorem C97ok : Okf Tryz.prog 97 Tryz.f97 C97 C97r := ⟨Tryz.func97, by kernel_rfl, by kernel_rfl, by kernel_rfl⟩

/-- mimesis/inst.Stores -/
abbrev C98_0 := Ro [As 2 (kI 0)]
abbrev C98_1 := Ro [Mv 3 t0]
abbrev C98_2 := Ro [Bn 5 .eql t3 (kI 16),As 4 t5]
abbrev C98_3 := Ro [As 2 (kI 1)]
abbrev C98_4 := Sq [2] C98_3 .ret
abbrev C98_5 := Ro [Bn 7 .eql t3 (kI 17),As 6 t7]
abbrev C98_6 := Ro [As 2 (kI 2)]
abbrev C98_7 := Sq [2] C98_6 .ret
abbrev C98_8 := Ro [Bn 9 .eql t3 (kI 18),As 8 t9]
abbrev C98_9 := Ro [As 2 (kI 4)]
abbrev C98_10 := Sq [2] C98_9 .ret
abbrev C98_11 := Cd t8 C98_10 .skip
abbrev C98_12 := Sq [8] C98_8 C98_11
abbrev C98_13 := Cd t6 C98_7 C98_12
abbrev C98_14 := Sq [3,6] C98_5 C98_13
abbrev C98_15 := Cd t4 C98_4 C98_14
abbrev C98_16 := Sq [3,4] C98_2 C98_15
abbrev C98_17 := Bk 0 C98_16
abbrev C98_18 := Sq [3] C98_1 C98_17
abbrev C98_19 := Ro [As 2 (kI 0)]
abbrev C98_20 := Sq [2] C98_19 .ret
abbrev C98_21 := Sq [] C98_18 C98_20
abbrev C98_22 := Sq [0] C98_0 C98_21
abbrev C98 := C98_22
abbrev C98r : List RV := [.t 2]
theorem C98ok : Okf Tryz.prog 98 Tryz.f98 C98 C98r := ⟨Tryz.func98, by kernel_rfl, by kernel_rfl, by kernel_rfl⟩

/-- mimesis/ir.Reckons -/
abbrev C99_0 := Ro [As 2 kF]
abbrev C99_1 := Ro [Mv 3 t0,Ca 4 112 [t3],Mv 5 t4,Mvf 6 5 t0,Caf 7 5 113 [t6],Pk 8 t5 kT t7,As 2 t8]
abbrev C99_2 := Sq [2] C99_1 .ret
abbrev C99_3 := Sq [0] C99_0 C99_2
abbrev C99 := C99_3
abbrev C99r : List RV := [.t 2]
theorem C99ok : Okf Tryz.prog 99 Tryz.f99 C99 C99r := ⟨Tryz.func99, by kernel_rfl, by kernel_rfl, by kernel_rfl⟩

/-- mimesis/alu.Do -/
abbrev C100_0 := Ro [As 6 (kU 0),As 7 (kI 0)]
abbrev C100_1 := Ro [Mv 9 t2,Bn 10 .and t9 (kU 31),Cv 11 .u64 t10,As 8 t11]
abbrev C100_2 := Ro [Mv 12 t0,Ca 13 114 [t12]]
abbrev C100_3 := Ro [Bn 15 .eql t13 (kI 29),As 14 t15]
abbrev C100_4 := Cd t14 (.exit 1) .skip
abbrev C100_5 := Sq [1,2,8,13,14] C100_3 C100_4
abbrev C100_6 := Ro [Bn 17 .eql t13 (kI 28),As 16 t17]
abbrev C100_7 := Cd t16 (.exit 2) .skip
abbrev C100_8 := Sq [1,2,8,13,16] C100_6 C100_7
abbrev C100_9 := Ro [Bn 19 .eql t13 (kI 30),As 18 t19]
abbrev C100_10 := Cd t18 (.exit 3) .skip
abbrev C100_11 := Sq [1,2,8,13,18] C100_9 C100_10
abbrev C100_12 := Ro [Bn 21 .eql t13 (kI 31),As 20 t21]
abbrev C100_13 := Cd t20 (.exit 4) .skip
abbrev C100_14 := Sq [1,2,8,13,20] C100_12 C100_13
abbrev C100_15 := Ro [Bn 23 .eql t13 (kI 32),As 22 t23]
abbrev C100_16 := Cd t22 (.exit 5) .skip
abbrev C100_17 := Sq [1,2,8,13,22] C100_15 C100_16
abbrev C100_18 := Ro [Bn 25 .eql t13 (kI 33),As 24 t25]
abbrev C100_19 := Cd t24 (.exit 6) .skip
abbrev C100_20 := Sq [1,2,8,13,24] C100_18 C100_19
abbrev C100_21 := Ro [Bn 27 .eql t13 (kI 34),As 26 t27]
abbrev C100_22 := Cd t26 (.exit 7) .skip
abbrev C100_23 := Sq [1,2,8,13,26] C100_21 C100_22
abbrev C100_24 := Ro [Bn 29 .eql t13 (kI 35),As 28 t29]
abbrev C100_25 := Cd t28 (.exit 8) .skip
abbrev C100_26 := Sq [1,2,8,13,28] C100_24 C100_25
abbrev C100_27 := Ro [Bn 31 .eql t13 (kI 36),As 30 t31]
abbrev C100_28 := Cd t30 (.exit 9) .skip
abbrev C100_29 := Sq [1,2,13,30] C100_27 C100_28
abbrev C100_30 := Ro [Bn 33 .eql t13 (kI 37),As 32 t33]
abbrev C100_31 := Cd t32 (.exit 10) .skip
abbrev C100_32 := Sq [1,2,32] C100_30 C100_31
abbrev C100_33 := Sq [1,2,13] C100_29 C100_32
abbrev C100_34 := Sq [1,2,13] C100_26 C100_33
abbrev C100_35 := Sq [1,2,8,13] C100_23 C100_34
abbrev C100_36 := Sq [1,2,8,13] C100_20 C100_35
abbrev C100_37 := Sq [1,2,8,13] C100_17 C100_36
abbrev C100_38 := Sq [1,2,8,13] C100_14 C100_37
abbrev C100_39 := Sq [1,2,8,13] C100_11 C100_38
abbrev C100_40 := Sq [1,2,8,13] C100_8 C100_39
abbrev C100_41 := Sq [1,2,8,13] C100_5 C100_40
abbrev C100_42 := Sq [] C100_41 (.exit 0)
abbrev C100_43 := Bk 1 C100_42
abbrev C100_44 := Ro [Mv 34 t2,Un 35 .neg t34,As 2 t35]
abbrev C100_45 := Sq [1,2] C100_43 C100_44
abbrev C100_46 := Bk 2 C100_45
abbrev C100_47 := Ro [Mv 36 t1,Mv 37 t2,Bn 38 .add t36 t37,As 6 t38,As 7 (kI 0)]
abbrev C100_48 := Sq [6,7] C100_47 .ret
abbrev C100_49 := Sq [] C100_48 (.exit 0)
abbrev C100_50 := Sq [1,2] C100_46 C100_49
abbrev C100_51 := Bk 3 C100_50
abbrev C100_52 := Ro [Mv 39 t1,Mv 40 t8,Bn 41 .shl t39 t40,As 6 t41,As 7 (kI 0)]
abbrev C100_53 := Sq [6,7] C100_52 .ret
abbrev C100_54 := Sq [] C100_53 (.exit 0)
abbrev C100_55 := Sq [1,8] C100_51 C100_54
abbrev C100_56 := Bk 4 C100_55
abbrev C100_57 := Ro [Mv 42 t1,Bn 43 .xor t42 (kU 2147483648),As 1 t43]
abbrev C100_58 := Ro [Mv 44 t2,Bn 45 .xor t44 (kU 2147483648),As 2 t45]
abbrev C100_59 := Sq [1,2] C100_57 C100_58
abbrev C100_60 := Sq [1,2] C100_56 C100_59
abbrev C100_61 := Bk 5 C100_60
abbrev C100_62 := Ro [Mv 46 t1,Mv 47 t2,Bn 48 .lss t46 t47,Ca 49 115 [t48],As 6 t49,As 7 (kI 0)]
abbrev C100_63 := Sq [6,7] C100_62 .ret
abbrev C100_64 := Sq [] C100_63 (.exit 0)
abbrev C100_65 := Sq [1,2] C100_61 C100_64
abbrev C100_66 := Bk 6 C100_65
abbrev C100_67 := Ro [Mv 50 t1,Mv 51 t2,Bn 52 .xor t50 t51,As 6 t52,As 7 (kI 0)]
abbrev C100_68 := Sq [6,7] C100_67 .ret
abbrev C100_69 := Sq [] C100_68 (.exit 0)
abbrev C100_70 := Sq [1,2] C100_66 C100_69
abbrev C100_71 := Bk 7 C100_70
abbrev C100_72 := Ro [Mv 53 t1,Mv 54 t8,Bn 55 .shr t53 t54,As 6 t55,As 7 (kI 0)]
abbrev C100_73 := Sq [6,7] C100_72 .ret
abbrev C100_74 := Sq [] C100_73 (.exit 0)
abbrev C100_75 := Sq [1,8] C100_71 C100_74
abbrev C100_76 := Bk 8 C100_75
abbrev C100_77 := Ro [Mv 56 t1,Cv 57 .i32 t56,Mv 58 t8,Bn 59 .shr t57 t58,Cv 60 .u32 t59,As 6 t60,As 7 (kI 0)]
abbrev C100_78 := Sq [6,7] C100_77 .ret
abbrev C100_79 := Sq [] C100_78 (.exit 0)
abbrev C100_80 := Sq [1,8] C100_76 C100_79
abbrev C100_81 := Bk 9 C100_80
abbrev C100_82 := Ro [Mv 61 t1,Mv 62 t2,Bn 63 .or t61 t62,As 6 t63,As 7 (kI 0)]
abbrev C100_83 := Sq [6,7] C100_82 .ret
abbrev C100_84 := Sq [] C100_83 (.exit 0)
abbrev C100_85 := Sq [1,2] C100_81 C100_84
abbrev C100_86 := Bk 10 C100_85
abbrev C100_87 := Ro [Mv 64 t1,Mv 65 t2,Bn 66 .and t64 t65,As 6 t66,As 7 (kI 0)]
abbrev C100_88 := Sq [6,7] C100_87 .ret
abbrev C100_89 := Sq [] C100_88 (.exit 0)
abbrev C100_90 := Sq [1,2] C100_86 C100_89
abbrev C100_91 := Bk 0 C100_90
abbrev C100_92 := Sq [1,2,8,13] C100_2 C100_91
abbrev C100_93 := Ro [As 6 (kU 0),As 7 (kI 9)]
abbrev C100_94 := Sq [6,7] C100_93 .ret
abbrev C100_95 := Sq [] C100_92 C100_94
abbrev C100_96 := Sq [0,1,2,8] C100_1 C100_95
abbrev C100_97 := Sq [0,1,2] C100_0 C100_96
abbrev C100 := C100_97
abbrev C100r : List RV := [.t 6,.t 7]
theorem C100ok : Okf Tryz.prog 100 Tryz.f100 C100 C100r := ⟨Tryz.func100, by kernel_rfl, by kernel_rfl, by kernel_rfl⟩

/-- mimesis/muldiv.Do -/
abbrev C101_0 := Ro [As 6 (kU 0),As 7 (kI 0)]
abbrev C101_1 := Ro [Mv 12 t0]
abbrev C101_2 := Ro [Bn 14 .eql t12 (kI 50),As 13 t14]
abbrev C101_3 := Ro [Mv 15 t1,Mv 16 t2,Bn 17 .mul t15 t16,As 6 t17,As 7 (kI 0)]
abbrev C101_4 := Sq [6,7] C101_3 .ret
abbrev C101_5 := Ro [Bn 19 .eql t12 (kI 51),As 18 t19]
abbrev C101_6 := Ro [Bn 20 .eql t12 (kI 52),As 18 t20]
abbrev C101_7 := Ro [Bn 21 .eql t12 (kI 53),As 18 t21]
abbrev C101_8 := Cd t18 .skip C101_7
abbrev C101_9 := Sq [0,1,2,12,18] C101_6 C101_8
abbrev C101_10 := Cd t18 .skip C101_9
abbrev C101_11 := Sq [0,1,2,12,18] C101_5 C101_10
abbrev C101_12 := Ro [Mv 22 t1,Mv 23 t2,Mv 24 t0,Bn 25 .neq t24 (kI 53),Mv 26 t0,Bn 27 .eql t26 (kI 51),Ca 28 116 [t22,t23,t25,t27],As 6 t28,As 7 (kI 0)]
abbrev C101_13 := Sq [6,7] C101_12 .ret
abbrev C101_14 := Ro [Bn 30 .eql t12 (kI 54),As 29 t30]
abbrev C101_15 := Ro [Bn 31 .eql t12 (kI 55),As 29 t31]
abbrev C101_16 := Cd t29 .skip C101_15
abbrev C101_17 := Sq [0,1,2,12,29] C101_14 C101_16
abbrev C101_18 := Ro [Mv 33 t1,Mv 34 t2,Mv 35 t0,Bn 36 .eql t35 (kI 54),Ca 37 117 [t33,t34,t36],Mv 32 t37,Ex 38 0 t32,Ex 39 1 t32,As 8 t38,As 9 t39]
abbrev C101_19 := Ro [Mv 40 t8,As 6 t40,As 7 (kI 0)]
abbrev C101_20 := Sq [6,7] C101_19 .ret
abbrev C101_21 := Sq [8] C101_18 C101_20
abbrev C101_22 := Ro [Bn 42 .eql t12 (kI 56),As 41 t42]
abbrev C101_23 := Ro [Bn 43 .eql t12 (kI 57),As 41 t43]
abbrev C101_24 := Cd t41 .skip C101_23
abbrev C101_25 := Sq [0,1,2,12,41] C101_22 C101_24
abbrev C101_26 := Ro [Mv 45 t1,Mv 46 t2,Mv 47 t0,Bn 48 .eql t47 (kI 56),Ca 49 117 [t45,t46,t48],Mv 44 t49,Ex 50 0 t44,Ex 51 1 t44,As 10 t50,As 11 t51]
abbrev C101_27 := Ro [Mv 52 t11,As 6 t52,As 7 (kI 0)]
abbrev C101_28 := Sq [6,7] C101_27 .ret
abbrev C101_29 := Sq [11] C101_26 C101_28
abbrev C101_30 := Cd t41 C101_29 .skip
abbrev C101_31 := Sq [0,1,2,41] C101_25 C101_30
abbrev C101_32 := Cd t29 C101_21 C101_31
abbrev C101_33 := Sq [0,1,2,12,29] C101_17 C101_32
abbrev C101_34 := Cd t18 C101_13 C101_33
abbrev C101_35 := Sq [0,1,2,12,18] C101_11 C101_34
abbrev C101_36 := Cd t13 C101_4 C101_35
abbrev C101_37 := Sq [0,1,2,12,13] C101_2 C101_36
abbrev C101_38 := Bk 0 C101_37
abbrev C101_39 := Sq [0,1,2,12] C101_1 C101_38
abbrev C101_40 := Ro [As 6 (kU 0),As 7 (kI 9)]
abbrev C101_41 := Sq [6,7] C101_40 .ret
abbrev C101_42 := Sq [] C101_39 C101_41
abbrev C101_43 := Sq [0,1,2] C101_0 C101_42
abbrev C101 := C101_43
abbrev C101r : List RV := [.t 6,.t 7]
theorem C101ok : Okf Tryz.prog 101 Tryz.f101 C101 C101r := ⟨Tryz.func101, by kernel_rfl, by kernel_rfl, by kernel_rfl⟩

/-- mimesis/mimesisref09.Numbers -/
abbrev C102_0 := Ro [As 0 kS]
abbrev C102_1 := Ro [⟨(some 1),none,.e (.bsr 23 [zi,zi,zi,zi,zi,zi,zi,zi,zi,zi,zi,zi,zi,zi,zi,zi,zi,zi,zi,zi,zi,zi,zi] [(0,1,(kI 768)),(1,1,(kI 769)),(2,1,(kI 772)),(3,1,(kI 773)),(4,1,(kI 832)),(5,1,(kI 833)),(6,1,(kI 834)),(7,1,(kI 835)),(8,1,(kI 836)),(9,1,(kI 2816)),(10,1,(kI 2818)),(11,1,(kI 2944)),(12,1,(kI 2946)),(13,1,(kI 3072)),(14,1,(kI 3073)),(15,1,(kI 3074)),(16,1,(kI 3200)),(17,1,(kI 3201)),(18,1,(kI 3202)),(19,1,(kI 3857)),(20,1,(kI 3858)),(21,1,(kI 3859)),(22,1,(kI 3860))])⟩,As 0 t1]
abbrev C102_2 := Sq [0] C102_1 .ret
abbrev C102_3 := Sq [] C102_0 C102_2
abbrev C102 := C102_3
abbrev C102r : List RV := [.t 0]
theorem C102ok : Okf Tryz.prog 102 Tryz.f102 C102 C102r := ⟨Tryz.func102, by kernel_rfl, by kernel_rfl, by kernel_rfl⟩

/-- mimesis/ir.kind -/
abbrev C103_0 := Ro [Br 1 t0,As 2 kF]
abbrev C103_1 := Ro [Fa 4 3 t1,Ld 5 none t4,Cv 6 .i64 t5,As 3 t6]
abbrev C103_2 := Ro [Fa 7 0 t1,Ld 8 none t7]
abbrev C103_3 := Ro [Bn 10 .eql t8 (kI 1),As 9 t10]
abbrev C103_4 := Ro [Mv 11 t3,Bn 12 .geq t11 (kI 1),Mv 13 t12,Mvt 14 13 t3,Bnt 15 13 .leq t14 (kI 31),Pk 16 t13 t15 kF,As 2 t16]
abbrev C103_5 := Sq [2] C103_4 .ret
abbrev C103_6 := Ro [Bn 18 .eql t8 (kI 2),As 17 t18]
abbrev C103_7 := Ro [As 2 kT]
abbrev C103_8 := Sq [2] C103_7 .ret
abbrev C103_9 := Ro [Bn 20 .eql t8 (kI 3),As 19 t20]
abbrev C103_10 := Ro [Mv 21 t3,Ca 22 99 [t21],As 2 t22]
abbrev C103_11 := Sq [2] C103_10 .ret
abbrev C103_12 := Ro [Bn 24 .eql t8 (kI 4),As 23 t24]
abbrev C103_13 := Ro [Mv 25 t3,Ca 26 96 [t25],Bn 27 .gtr t26 (kI 0),As 2 t27]
abbrev C103_14 := Sq [2] C103_13 .ret
abbrev C103_15 := Ro [Bn 29 .eql t8 (kI 5),As 28 t29]
abbrev C103_16 := Ro [Mv 30 t3,Ca 31 98 [t30],Bn 32 .gtr t31 (kI 0),As 2 t32]
abbrev C103_17 := Sq [2] C103_16 .ret
abbrev C103_18 := Ro [Bn 34 .eql t8 (kI 6),As 33 t34]
abbrev C103_19 := Ro [Mv 35 t3,Bn 36 .geq t35 (kI 5),Mv 37 t36,Mvt 38 37 t3,Bnt 39 37 .leq t38 (kI 10),Pk 40 t37 t39 kF,As 2 t40]
abbrev C103_20 := Sq [2] C103_19 .ret
abbrev C103_21 := Cd t33 C103_20 .skip
abbrev C103_22 := Sq [3,33] C103_18 C103_21
abbrev C103_23 := Cd t28 C103_17 C103_22
abbrev C103_24 := Sq [3,8,28] C103_15 C103_23
abbrev C103_25 := Cd t23 C103_14 C103_24
abbrev C103_26 := Sq [3,8,23] C103_12 C103_25
abbrev C103_27 := Cd t19 C103_11 C103_26
abbrev C103_28 := Sq [3,8,19] C103_9 C103_27
abbrev C103_29 := Cd t17 C103_8 C103_28
abbrev C103_30 := Sq [3,8,17] C103_6 C103_29
abbrev C103_31 := Cd t9 C103_5 C103_30
abbrev C103_32 := Sq [3,8,9] C103_3 C103_31
abbrev C103_33 := Bk 0 C103_32
abbrev C103_34 := Sq [3,8] C103_2 C103_33
abbrev C103_35 := Ro [As 2 kF]
abbrev C103_36 := Sq [2] C103_35 .ret
abbrev C103_37 := Sq [] C103_34 C103_36
abbrev C103_38 := Sq [1,3] C103_1 C103_37
abbrev C103_39 := Sq [1] C103_0 C103_38
abbrev C103 := C103_39
abbrev C103r : List RV := [.t 2]
theorem C103ok : Okf Tryz.prog 103 Tryz.f103 C103 C103r := ⟨Tryz.func103, by kernel_rfl, by kernel_rfl, by kernel_rfl⟩

/-- mimesis/ir.named -/
abbrev C104_0 := Ro [Br 1 t0,As 2 kF]
abbrev C104_1 := Ro [Fa 4 0 t1,Ld 5 none t4,Fa 6 3 t1,Ld 7 none t6,⟨(some 8),none,.r (.bld [zi,zi,zi,z4,zi,zi] [(0,1,t5),(3,1,t7)])⟩,Al 3 [zi,zi,zi,z4,zi,zi],Sxn 6 t3 t8]
abbrev C104_2 := Ro [Fa 9 0 t1,Ld 10 none t9]
abbrev C104_3 := Ro [Bn 12 .eql t10 (kI 5),As 11 t12]
abbrev C104_4 := Cd t11 (.exit 1) .skip
abbrev C104_5 := Sq [1,3,10,11] C104_3 C104_4
abbrev C104_6 := Ro [Bn 14 .eql t10 (kI 6),As 13 t14]
abbrev C104_7 := Cd t13 (.exit 2) .skip
abbrev C104_8 := Sq [1,3,10,13] C104_6 C104_7
abbrev C104_9 := Ro [Bn 16 .eql t10 (kI 3),As 15 t16]
abbrev C104_10 := Cd t15 (.exit 3) .skip
abbrev C104_11 := Sq [1,3,10,15] C104_9 C104_10
abbrev C104_12 := Ro [Bn 18 .eql t10 (kI 4),As 17 t18]
abbrev C104_13 := Cd t17 (.exit 4) .skip
abbrev C104_14 := Sq [1,3,17] C104_12 C104_13
abbrev C104_15 := Sq [1,3,10] C104_11 C104_14
abbrev C104_16 := Sq [1,3,10] C104_8 C104_15
abbrev C104_17 := Sq [1,3,10] C104_5 C104_16
abbrev C104_18 := Sq [1,3] C104_17 (.exit 0)
abbrev C104_19 := Bk 1 C104_18
abbrev C104_20 := Ro [Fa 19 5 t1,Ld 20 none t19,Fa 21 5 t3,Sxn 1 t21 t20]
abbrev C104_21 := Sq [1,3] C104_19 C104_20
abbrev C104_22 := Bk 2 C104_21
abbrev C104_23 := Ro [Fa 22 4 t1,Ld 23 none t22,Fa 24 4 t3,Sxn 1 t24 t23]
abbrev C104_24 := Sq [1,3] C104_22 C104_23
abbrev C104_25 := Bk 3 C104_24
abbrev C104_26 := Dr [Fa 25 1 t1,Ld 26 none t25,Fa 27 2 t1,Ld 28 none t27,Fa 29 1 t3,Sxn 1 t29 t26,Fa 30 2 t3,Sxn 1 t30 t28] [[],[0],[],[2],[0,1],[4,1,0,1],[0,1,2,3,4,5],[6,3,5,0,1,2,3,4,5]] [(0,[]),(1,[]),(2,[]),(3,[]),(4,[]),(5,[2,3]),(6,[]),(7,[])]
abbrev C104_27 := Sq [1,3] C104_26 (.exit 0)
abbrev C104_28 := Sq [1,3] C104_25 C104_27
abbrev C104_29 := Bk 4 C104_28
abbrev C104_30 := Dr [Fa 31 1 t1,Ld 32 none t31,Fa 33 4 t1,Ld 34 none t33,Fa 35 1 t3,Sxn 1 t35 t32,Fa 36 4 t3,Sxn 1 t36 t34] [[],[0],[],[2],[0,1],[4,1,0,1],[0,1,2,3,4,5],[6,3,5,0,1,2,3,4,5]] [(0,[]),(1,[]),(2,[]),(3,[]),(4,[]),(5,[2,3]),(6,[]),(7,[])]
abbrev C104_31 := Sq [1,3] C104_30 (.exit 0)
abbrev C104_32 := Sq [1,3] C104_29 C104_31
abbrev C104_33 := Bk 0 C104_32
abbrev C104_34 := Sq [1,3,10] C104_2 C104_33
abbrev C104_35 := Ro [Ld 37 (some 6) t3,Ld 38 (some 6) t1,⟨(some 39),none,.r (.eqa false [.i,.i,.i,.i,.i,.i] t37 t38)⟩,As 2 t39]
abbrev C104_36 := Sq [2] C104_35 .ret
abbrev C104_37 := Sq [1,3] C104_34 C104_36
abbrev C104_38 := Sq [1,3] C104_1 C104_37
abbrev C104_39 := Sq [1] C104_0 C104_38
abbrev C104 := C104_39
abbrev C104r : List RV := [.t 2]
theorem C104ok : Okf Tryz.prog 104 Tryz.f104 C104 C104r := ⟨Tryz.func104, by kernel_rfl, by kernel_rfl, by kernel_rfl⟩

/-- mimesis/ir.Uses -/
abbrev C105_0 := Ro [Br 1 t0,As 2 kS]
abbrev C105_1 := Ro [Fa 3 0 t1,Ld 4 none t3]
abbrev C105_2 := Ro [Bn 6 .eql t4 (kI 3),As 5 t6]
abbrev C105_3 := Ro [Bn 7 .eql t4 (kI 5),As 5 t7]
abbrev C105_4 := Ro [Bn 8 .eql t4 (kI 6),As 5 t8]
abbrev C105_5 := Cd t5 .skip C105_4
abbrev C105_6 := Sq [1,4,5] C105_3 C105_5
abbrev C105_7 := Cd t5 .skip C105_6
abbrev C105_8 := Sq [1,4,5] C105_2 C105_7
abbrev C105_9 := Ro [Fa 9 1 t1,Ld 10 none t9,Fa 11 2 t1,Ld 12 none t11,⟨(some 13),none,.e (.bsr 2 [.int .i64 0,.int .i64 0] [(0,1,t10),(1,1,t12)])⟩,As 2 t13]
abbrev C105_10 := Sq [2] C105_9 .ret
abbrev C105_11 := Ro [Bn 15 .eql t4 (kI 4),As 14 t15]
abbrev C105_12 := Ro [Fa 16 1 t1,Ld 17 none t16,⟨(some 18),none,.e (.bsr 1 [.int .i64 0] [(0,1,t17)])⟩,As 2 t18]
abbrev C105_13 := Sq [2] C105_12 .ret
abbrev C105_14 := Cd t14 C105_13 .skip
abbrev C105_15 := Sq [1,14] C105_11 C105_14
abbrev C105_16 := Cd t5 C105_10 C105_15
abbrev C105_17 := Sq [1,4,5] C105_8 C105_16
abbrev C105_18 := Bk 0 C105_17
abbrev C105_19 := Sq [1,4] C105_1 C105_18
abbrev C105_20 := Ro [As 2 kS]
abbrev C105_21 := Sq [2] C105_20 .ret
abbrev C105_22 := Sq [] C105_19 C105_21
abbrev C105_23 := Sq [1] C105_0 C105_22
abbrev C105 := C105_23
abbrev C105r : List RV := [.t 2]
theorem C105ok : Okf Tryz.prog 105 Tryz.f105 C105 C105r := ⟨Tryz.func105, by kernel_rfl, by kernel_rfl, by kernel_rfl⟩

/-- (mimesis/ir.judge).value -/
abbrev C106_0 := Ro [Br 3 t0,As 6 kF]
abbrev C106_1 := Ro [Mv 7 t1,Bn 8 .geq t7 (kI 0),Mv 9 t8,Mvt 10 9 t1,Mvt 11 9 t2,Bnt 12 9 .lss t10 t11,Pk 13 t9 t12 kF,Mv 14 t13,Mvt 15 14 t1,Fat 16 14 0 t3,Ldt 17 14 none t16,Nct 18 14 t17,Fat 19 14 1 t18,Ldt 20 14 none t19,Lnt 21 14 t20,Bnt 22 14 .lss t15 t21,Pk 23 t14 t22 kF,Mv 24 t23,Fat 25 24 0 t3,Ldt 26 24 none t25,Nct 27 24 t26,Fat 28 24 1 t27,Ldt 29 24 none t28,Mvt 30 24 t1,Ixt 31 24 6 t29 t30,Fat 32 24 0 t31,Ldt 33 24 none t32,Cat 34 24 118 [t33],Pk 35 t24 t34 kF,As 6 t35]
abbrev C106_2 := Sq [6] C106_1 .ret
abbrev C106_3 := Sq [1,2,3] C106_0 C106_2
abbrev C106 := C106_3
abbrev C106r : List RV := [.t 6]
theorem C106ok : Okf Tryz.prog 106 Tryz.f106 C106 C106r := ⟨Tryz.func106, by kernel_rfl, by kernel_rfl, by kernel_rfl⟩

/-- slices.IndexFunc[[]uint32,uint32] -/
abbrev C107_0 := Ro [As 4 (kI 0)]
abbrev C107_1 := Ro [Mv 6 t0,Ln 7 t6,Mv 8 (kI 0)]
abbrev C107_2 := Ro [Bn 9 .lss t8 t7]
abbrev C107_3 := Cd t9 .skip (.exit 0)
abbrev C107_4 := Ro [Mv 10 t8,As 5 t10]
abbrev C107_5 := Ro [Mv 11 t1,Mv 12 t0,Mv 13 t5,Ix 14 1 t12 t13,Ld 15 none t14,⟨(some 16),none,.e (.callv t11 [t15])⟩]
abbrev C107_6 := Ro [Mv 17 t5,As 4 t17]
abbrev C107_7 := Sq [4] C107_6 .ret
abbrev C107_8 := Cd t16 C107_7 .skip
abbrev C107_9 := Sq [0,1,5,7,8,16] C107_5 C107_8
abbrev C107_10 := Sq [0,1,5,7,8] C107_4 C107_9
abbrev C107_11 := Bk 1 C107_10
abbrev C107_12 := Ro [Bn 18 .add t8 (kI 1),Mv 8 t18]
abbrev C107_13 := Sq [0,1,7,8] C107_11 C107_12
abbrev C107_14 := Sq [0,1,7,8] C107_3 C107_13
abbrev C107_15 := Sq [0,1,7,8,9] C107_2 C107_14
abbrev C107_16 : ACode := .loop C107_15
abbrev C107_17 := Bk 0 C107_16
abbrev C107_18 := Sq [0,1,7,8] C107_1 C107_17
abbrev C107_19 := Ro [As 4 (kI (-1))]
abbrev C107_20 := Sq [4] C107_19 .ret
abbrev C107_21 := Sq [] C107_18 C107_20
abbrev C107_22 := Sq [0,1] C107_0 C107_21
abbrev C107 := C107_22
abbrev C107r : List RV := [.t 4]
theorem C107ok : Okf Tryz.prog 107 Tryz.f107 C107 C107r := ⟨Tryz.func107, by kernel_rfl, by kernel_rfl, by kernel_rfl⟩

/-- slices.ContainsFunc[[]mimesis/ir.Val,mimesis/ir.Val] -/
abbrev C108_0 := Ro [As 4 kF]
abbrev C108_1 := Ro [Mv 5 t0,Mv 6 t1,Ca 7 119 [t5,t6],Bn 8 .geq t7 (kI 0),As 4 t8]
abbrev C108_2 := Sq [4] C108_1 .ret
abbrev C108_3 := Sq [0,1] C108_0 C108_2
abbrev C108 := C108_3
abbrev C108r : List RV := [.t 4]
theorem C108ok : Okf Tryz.prog 108 Tryz.f108 C108 C108r := ⟨Tryz.func108, by kernel_rfl, by kernel_rfl, by kernel_rfl⟩

/-- (mimesis/ir.judge).exit$1 -/
abbrev C109_0 := Ro [Br 3 t0,As 4 kF]
abbrev C109_1 := Ro [Ld 5 (some 1) t1,Fa 6 1 t3,Ld 7 none t6,Ld 8 none t2,Ca 9 106 [t5,t7,t8],Un 10 .not t9,As 4 t10]
abbrev C109_2 := Sq [4] C109_1 .ret
abbrev C109_3 := Sq [1,2,3] C109_0 C109_2
abbrev C109 := C109_3
abbrev C109r : List RV := [.t 4]
theorem C109ok : Okf Tryz.prog 109 Tryz.f109 C109 C109r := ⟨Tryz.func109, by kernel_rfl, by kernel_rfl, by kernel_rfl⟩

/-- (*mimesis/fifo.Fifo).Len -/
abbrev C110_0 := Ro [As 2 (kI 0)]
abbrev C110_1 := Ro [Mv 3 t0,Ep 4 false t3 kP]
abbrev C110_2 := Ro [As 2 (kI 0)]
abbrev C110_3 := Sq [2] C110_2 .ret
abbrev C110_4 := Cd t4 C110_3 .skip
abbrev C110_5 := Sq [0,4] C110_1 C110_4
abbrev C110_6 := Ro [Mv 5 t0,Nc 6 t5,Fa 7 17 t6,Ld 8 none t7,As 2 t8]
abbrev C110_7 := Sq [2] C110_6 .ret
abbrev C110_8 := Sq [0] C110_5 C110_7
abbrev C110_9 := Sq [0] C110_0 C110_8
abbrev C110 := C110_9
abbrev C110r : List RV := [.t 2]
theorem C110ok : Okf Tryz.prog 110 Tryz.f110 C110 C110r := ⟨Tryz.func110, by kernel_rfl, by kernel_rfl, by kernel_rfl⟩

/-- mimesis/word.Number -/
abbrev C111_0 := Ro [As 2 (kU 0),As 3 (kI 0)]
abbrev C111_1 := Ro [Mv 6 t0,Ln 7 t6,Ca 8 80 [t7],Un 9 .not t8]
abbrev C111_2 := Ro [As 2 (kU 0),As 3 (kI 4)]
abbrev C111_3 := Sq [2,3] C111_2 .ret
abbrev C111_4 := Cd t9 C111_3 .skip
abbrev C111_5 := Sq [0,9] C111_1 C111_4
abbrev C111_6 := Ro [As 4 (kU 0)]
abbrev C111_7 := Ro [Mv 10 t0,Ln 11 t10,Mv 12 (kI 0)]
abbrev C111_8 := Ro [Bn 13 .lss t12 t11]
abbrev C111_9 := Cd t13 .skip (.exit 0)
abbrev C111_10 := Ro [Mv 14 t12,As 5 t14]
abbrev C111_11 := Ro [Mv 15 t4,Mv 16 t0,Mv 17 t5,Ix 18 1 t16 t17,Ld 19 none t18,Cv 20 .u32 t19,Mv 21 t5,Bn 22 .mul (kI 8) t21,Cv 23 .u64 t22,Bn 24 .shl t20 t23,Bn 25 .or t15 t24,As 4 t25]
abbrev C111_12 := Sq [0,4,5,11,12] C111_10 C111_11
abbrev C111_13 := Bk 1 C111_12
abbrev C111_14 := Ro [Bn 26 .add t12 (kI 1),Mv 12 t26]
abbrev C111_15 := Sq [0,4,11,12] C111_13 C111_14
abbrev C111_16 := Sq [0,4,11,12] C111_9 C111_15
abbrev C111_17 := Sq [0,4,11,12,13] C111_8 C111_16
abbrev C111_18 : ACode := .loop C111_17
abbrev C111_19 := Bk 0 C111_18
abbrev C111_20 := Sq [0,4,11,12] C111_7 C111_19
abbrev C111_21 := Ro [Mv 27 t4,As 2 t27,As 3 (kI 0)]
abbrev C111_22 := Sq [2,3] C111_21 .ret
abbrev C111_23 := Sq [4] C111_20 C111_22
abbrev C111_24 := Sq [0,4] C111_6 C111_23
abbrev C111_25 := Sq [0] C111_5 C111_24
abbrev C111_26 := Sq [0] C111_0 C111_25
abbrev C111 := C111_26
abbrev C111r : List RV := [.t 2,.t 3]
theorem C111ok : Okf Tryz.prog 111 Tryz.f111 C111 C111r := ⟨Tryz.func111, by kernel_rfl, by kernel_rfl, by kernel_rfl⟩

/-- mimesis/alu.Has -/
abbrev C112_0 := Ro [As 2 kF]
abbrev C112_1 := Ro [Mv 3 t0,Bn 4 .geq t3 (kI 19),Mv 5 t4,Mvt 6 5 t0,Bnt 7 5 .leq t6 (kI 37),Pk 8 t5 t7 kF,As 2 t8]
abbrev C112_2 := Sq [2] C112_1 .ret
abbrev C112_3 := Sq [0] C112_0 C112_2
abbrev C112 := C112_3
abbrev C112r : List RV := [.t 2]
theorem C112ok : Okf Tryz.prog 112 Tryz.f112 C112 C112r := ⟨Tryz.func112, by kernel_rfl, by kernel_rfl, by kernel_rfl⟩

/-- mimesis/muldiv.Has -/
abbrev C113_0 := Ro [As 2 kF]
abbrev C113_1 := Ro [Mv 3 t0,Bn 4 .geq t3 (kI 50),Mv 5 t4,Mvt 6 5 t0,Bnt 7 5 .leq t6 (kI 57),Pk 8 t5 t7 kF,As 2 t8]
abbrev C113_2 := Sq [2] C113_1 .ret
abbrev C113_3 := Sq [0] C113_0 C113_2
abbrev C113 := C113_3
abbrev C113r : List RV := [.t 2]
theorem C113ok : Okf Tryz.prog 113 Tryz.f113 C113 C113r := ⟨Tryz.func113, by kernel_rfl, by kernel_rfl, by kernel_rfl⟩

/-- mimesis/alu.Plain -/
abbrev C114_0 := Ro [As 2 (kI 0)]
abbrev C114_1 := Ro [Mv 3 t0]
abbrev C114_2 := Ro [Bn 5 .eql t3 (kI 19),As 4 t5]
abbrev C114_3 := Ro [As 2 (kI 28)]
abbrev C114_4 := Sq [2] C114_3 .ret
abbrev C114_5 := Ro [Bn 7 .eql t3 (kI 20),As 6 t7]
abbrev C114_6 := Ro [As 2 (kI 31)]
abbrev C114_7 := Sq [2] C114_6 .ret
abbrev C114_8 := Ro [Bn 9 .eql t3 (kI 21),As 8 t9]
abbrev C114_9 := Ro [As 2 (kI 32)]
abbrev C114_10 := Sq [2] C114_9 .ret
abbrev C114_11 := Ro [Bn 11 .eql t3 (kI 22),As 10 t11]
abbrev C114_12 := Ro [As 2 (kI 33)]
abbrev C114_13 := Sq [2] C114_12 .ret
abbrev C114_14 := Ro [Bn 13 .eql t3 (kI 23),As 12 t13]
abbrev C114_15 := Ro [As 2 (kI 36)]
abbrev C114_16 := Sq [2] C114_15 .ret
abbrev C114_17 := Ro [Bn 15 .eql t3 (kI 24),As 14 t15]
abbrev C114_18 := Ro [As 2 (kI 37)]
abbrev C114_19 := Sq [2] C114_18 .ret
abbrev C114_20 := Ro [Bn 17 .eql t3 (kI 25),As 16 t17]
abbrev C114_21 := Ro [As 2 (kI 30)]
abbrev C114_22 := Sq [2] C114_21 .ret
abbrev C114_23 := Ro [Bn 19 .eql t3 (kI 26),As 18 t19]
abbrev C114_24 := Ro [As 2 (kI 34)]
abbrev C114_25 := Sq [2] C114_24 .ret
abbrev C114_26 := Ro [Bn 21 .eql t3 (kI 27),As 20 t21]
abbrev C114_27 := Ro [As 2 (kI 35)]
abbrev C114_28 := Sq [2] C114_27 .ret
abbrev C114_29 := Cd t20 C114_28 .skip
abbrev C114_30 := Sq [0,20] C114_26 C114_29
abbrev C114_31 := Cd t18 C114_25 C114_30
abbrev C114_32 := Sq [0,3,18] C114_23 C114_31
abbrev C114_33 := Cd t16 C114_22 C114_32
abbrev C114_34 := Sq [0,3,16] C114_20 C114_33
abbrev C114_35 := Cd t14 C114_19 C114_34
abbrev C114_36 := Sq [0,3,14] C114_17 C114_35
abbrev C114_37 := Cd t12 C114_16 C114_36
abbrev C114_38 := Sq [0,3,12] C114_14 C114_37
abbrev C114_39 := Cd t10 C114_13 C114_38
abbrev C114_40 := Sq [0,3,10] C114_11 C114_39
abbrev C114_41 := Cd t8 C114_10 C114_40
abbrev C114_42 := Sq [0,3,8] C114_8 C114_41
abbrev C114_43 := Cd t6 C114_7 C114_42
abbrev C114_44 := Sq [0,3,6] C114_5 C114_43
abbrev C114_45 := Cd t4 C114_4 C114_44
abbrev C114_46 := Sq [0,3,4] C114_2 C114_45
abbrev C114_47 := Bk 0 C114_46
abbrev C114_48 := Sq [0,3] C114_1 C114_47
abbrev C114_49 := Ro [Mv 22 t0,Ca 23 112 [t22]]
abbrev C114_50 := Ro [Mv 24 t0,As 2 t24]
abbrev C114_51 := Sq [2] C114_50 .ret
abbrev C114_52 := Cd t23 C114_51 .skip
abbrev C114_53 := Sq [0,23] C114_49 C114_52
abbrev C114_54 := Ro [As 2 (kI 0)]
abbrev C114_55 := Sq [2] C114_54 .ret
abbrev C114_56 := Sq [] C114_53 C114_55
abbrev C114_57 := Sq [0] C114_48 C114_56
abbrev C114_58 := Sq [0] C114_0 C114_57
abbrev C114 := C114_58
abbrev C114r : List RV := [.t 2]
theorem C114ok : Okf Tryz.prog 114 Tryz.f114 C114 C114r := ⟨Tryz.func114, by kernel_rfl, by kernel_rfl, by kernel_rfl⟩

/-- mimesis/alu.one -/
abbrev C115_0 := Ro [As 2 (kU 0)]
abbrev C115_1 := Ro [Mv 3 t0]
abbrev C115_2 := Ro [As 2 (kU 1)]
abbrev C115_3 := Sq [2] C115_2 .ret
abbrev C115_4 := Cd t3 C115_3 .skip
abbrev C115_5 := Sq [3] C115_1 C115_4
abbrev C115_6 := Ro [As 2 (kU 0)]
abbrev C115_7 := Sq [2] C115_6 .ret
abbrev C115_8 := Sq [] C115_5 C115_7
abbrev C115_9 := Sq [0] C115_0 C115_8
abbrev C115 := C115_9
abbrev C115r : List RV := [.t 2]
theorem C115ok : Okf Tryz.prog 115 Tryz.f115 C115 C115r := ⟨Tryz.func115, by kernel_rfl, by kernel_rfl, by kernel_rfl⟩

/-- mimesis/muldiv.upper -/
abbrev C116_0 := Ro [As 8 (kU 0)]
abbrev C116_1 := Ro [Mv 12 t0,Mv 13 t1,Ca 14 120 [t12,t13],Mv 11 t14,Ex 15 0 t11,Ex 16 1 t11,As 9 t15,As 10 t16]
abbrev C116_2 := Ro [Mv 17 t2,Mv 18 t17,Mvt 19 18 t0,Cat 20 18 121 [t19],Pk 21 t18 t20 kF]
abbrev C116_3 := Ro [Mv 22 t9,Mv 23 t1,Bn 24 .sub t22 t23,As 9 t24]
abbrev C116_4 := Cd t21 C116_3 .skip
abbrev C116_5 := Sq [0,1,3,9,21] C116_2 C116_4
abbrev C116_6 := Ro [Mv 25 t3,Mv 26 t25,Mvt 27 26 t1,Cat 28 26 121 [t27],Pk 29 t26 t28 kF]
abbrev C116_7 := Ro [Mv 30 t9,Mv 31 t0,Bn 32 .sub t30 t31,As 9 t32]
abbrev C116_8 := Cd t29 C116_7 .skip
abbrev C116_9 := Sq [0,9,29] C116_6 C116_8
abbrev C116_10 := Ro [Mv 33 t9,As 8 t33]
abbrev C116_11 := Sq [8] C116_10 .ret
abbrev C116_12 := Sq [9] C116_9 C116_11
abbrev C116_13 := Sq [0,1,3,9] C116_5 C116_12
abbrev C116_14 := Sq [0,1,2,3,9] C116_1 C116_13
abbrev C116_15 := Sq [0,1,2,3] C116_0 C116_14
abbrev C116 := C116_15
abbrev C116r : List RV := [.t 8]
theorem C116ok : Okf Tryz.prog 116 Tryz.f116 C116 C116r := ⟨Tryz.func116, by kernel_rfl, by kernel_rfl, by kernel_rfl⟩

/-- mimesis/muldiv.quotient -/
abbrev C117_0 := Ro [As 6 (kU 0),As 7 (kU 0)]
abbrev C117_1 := Ro [Mv 9 t1,Bn 10 .eql t9 (kU 0),As 8 t10]
abbrev C117_2 := Ro [Mv 11 t0,As 6 (kU 4294967295),As 7 t11]
abbrev C117_3 := Sq [6,7] C117_2 .ret
abbrev C117_4 := Ro [Mv 13 t2,As 12 t13]
abbrev C117_5 := Ro [Mv 14 t0,Mv 15 t1,Ca 16 122 [t14,t15],Ex 17 0 t16,Ex 18 1 t16,As 6 t17,As 7 t18]
abbrev C117_6 := Sq [6,7] C117_5 .ret
abbrev C117_7 := Cd t12 C117_6 .skip
abbrev C117_8 := Sq [0,1,12] C117_4 C117_7
abbrev C117_9 := Cd t8 C117_3 C117_8
abbrev C117_10 := Sq [0,1,2,8] C117_1 C117_9
abbrev C117_11 := Bk 0 C117_10
abbrev C117_12 := Dr [Mv 19 t0,Mv 20 t1,Bn 21 .quo t19 t20,Mv 22 t0,Mv 23 t1,Bn 24 .rem t22 t23,As 6 t21,As 7 t24] [[],[],[0,1],[],[],[3,4],[2,0,1,2],[5,6,0,1,2,3,4,5,6]] [(0,[]),(1,[]),(2,[]),(3,[]),(4,[]),(5,[]),(6,[3,4,5]),(7,[])]
abbrev C117_13 := Sq [6,7] C117_12 .ret
abbrev C117_14 := Sq [0,1] C117_11 C117_13
abbrev C117_15 := Sq [0,1,2] C117_0 C117_14
abbrev C117 := C117_15
abbrev C117r : List RV := [.t 6,.t 7]
theorem C117ok : Okf Tryz.prog 117 Tryz.f117 C117 C117r := ⟨Tryz.func117, by kernel_rfl, by kernel_rfl, by kernel_rfl⟩

/-- mimesis/ir.Valued -/
abbrev C118_0 := Ro [As 2 kF]
abbrev C118_1 := Ro [Mv 3 t0,Bn 4 .geq t3 (kI 1),Mv 5 t4,Mvt 6 5 t0,Bnt 7 5 .leq t6 (kI 4),Pk 8 t5 t7 kF,As 2 t8]
abbrev C118_2 := Sq [2] C118_1 .ret
abbrev C118_3 := Sq [0] C118_0 C118_2
abbrev C118 := C118_3
abbrev C118r : List RV := [.t 2]
theorem C118ok : Okf Tryz.prog 118 Tryz.f118 C118 C118r := ⟨Tryz.func118, by kernel_rfl, by kernel_rfl, by kernel_rfl⟩

/-- slices.IndexFunc[[]mimesis/ir.Val,mimesis/ir.Val] -/
abbrev C119_0 := Ro [As 4 (kI 0)]
abbrev C119_1 := Ro [Mv 6 t0,Ln 7 t6,Mv 8 (kI 0)]
abbrev C119_2 := Ro [Bn 9 .lss t8 t7]
abbrev C119_3 := Cd t9 .skip (.exit 0)
abbrev C119_4 := Ro [Mv 10 t8,As 5 t10]
abbrev C119_5 := Ro [Mv 11 t1,Mv 12 t0,Mv 13 t5,Ix 14 2 t12 t13,Ld 15 (some 2) t14,⟨(some 16),none,.e (.callv t11 [t15])⟩]
abbrev C119_6 := Ro [Mv 17 t5,As 4 t17]
abbrev C119_7 := Sq [4] C119_6 .ret
abbrev C119_8 := Cd t16 C119_7 .skip
abbrev C119_9 := Sq [0,1,5,7,8,16] C119_5 C119_8
abbrev C119_10 := Sq [0,1,5,7,8] C119_4 C119_9
abbrev C119_11 := Bk 1 C119_10
abbrev C119_12 := Ro [Bn 18 .add t8 (kI 1),Mv 8 t18]
abbrev C119_13 := Sq [0,1,7,8] C119_11 C119_12
abbrev C119_14 := Sq [0,1,7,8] C119_3 C119_13
abbrev C119_15 := Sq [0,1,7,8,9] C119_2 C119_14
abbrev C119_16 : ACode := .loop C119_15
abbrev C119_17 := Bk 0 C119_16
abbrev C119_18 := Sq [0,1,7,8] C119_1 C119_17
abbrev C119_19 := Ro [As 4 (kI (-1))]
abbrev C119_20 := Sq [4] C119_19 .ret
abbrev C119_21 := Sq [] C119_18 C119_20
abbrev C119_22 := Sq [0,1] C119_0 C119_21
abbrev C119 := C119_22
abbrev C119r : List RV := [.t 4]
theorem C119ok : Okf Tryz.prog 119 Tryz.f119 C119 C119r := ⟨Tryz.func119, by kernel_rfl, by kernel_rfl, by kernel_rfl⟩

/-- mimesis/muldiv.Wide -/
abbrev C120_0 := Ro [As 4 (kU 0),As 5 (kU 0)]
abbrev C120_1 := Ro [Mv 13 t0,Bn 14 .shr t13 (kL 16),Mv 15 t0,Bn 16 .and t15 (kU 65535),As 6 t14,As 7 t16]
abbrev C120_2 := Ro [Mv 17 t1,Bn 18 .shr t17 (kL 16),Mv 19 t1,Bn 20 .and t19 (kU 65535),As 8 t18,As 9 t20]
abbrev C120_3 := Ro [Mv 21 t7,Mv 22 t9,Bn 23 .mul t21 t22,As 10 t23]
abbrev C120_4 := Ro [Mv 24 t6,Mv 25 t9,Bn 26 .mul t24 t25,Mv 27 t10,Bn 28 .shr t27 (kL 16),Bn 29 .add t26 t28,As 11 t29]
abbrev C120_5 := Ro [Mv 30 t7,Mv 31 t8,Bn 32 .mul t30 t31,Mv 33 t11,Bn 34 .and t33 (kU 65535),Bn 35 .add t32 t34,As 12 t35]
abbrev C120_6 := Ro [Mv 36 t6,Mv 37 t8,Bn 38 .mul t36 t37,Mv 39 t11,Bn 40 .shr t39 (kL 16),Bn 41 .add t38 t40,Mv 42 t12,Bn 43 .shr t42 (kL 16),Bn 44 .add t41 t43,Mv 45 t0,Mv 46 t1,Bn 47 .mul t45 t46,As 4 t44,As 5 t47]
abbrev C120_7 := Sq [4,5] C120_6 .ret
abbrev C120_8 := Sq [0,1,6,8,11,12] C120_5 C120_7
abbrev C120_9 := Sq [0,1,6,7,8,11] C120_4 C120_8
abbrev C120_10 := Sq [0,1,6,7,8,9,10] C120_3 C120_9
abbrev C120_11 := Sq [0,1,6,7,8,9] C120_2 C120_10
abbrev C120_12 := Sq [0,1,6,7] C120_1 C120_11
abbrev C120_13 := Sq [0,1] C120_0 C120_12
abbrev C120 := C120_13
abbrev C120r : List RV := [.t 4,.t 5]
theorem C120ok : Okf Tryz.prog 120 Tryz.f120 C120 C120r := ⟨Tryz.func120, by kernel_rfl, by kernel_rfl, by kernel_rfl⟩

/-- mimesis/muldiv.negative -/
abbrev C121_0 := Ro [As 2 kF]
abbrev C121_1 := Ro [Mv 3 t0,Bn 4 .shr t3 (kL 31),Bn 5 .eql t4 (kU 1),As 2 t5]
abbrev C121_2 := Sq [2] C121_1 .ret
abbrev C121_3 := Sq [0] C121_0 C121_2
abbrev C121 := C121_3
abbrev C121r : List RV := [.t 2]
theorem C121ok : Okf Tryz.prog 121 Tryz.f121 C121 C121r := ⟨Tryz.func121, by kernel_rfl, by kernel_rfl, by kernel_rfl⟩

/-- mimesis/muldiv.divided -/
abbrev C122_0 := Ro [⟨(some 2),none,.e (.box t0)⟩,⟨(some 3),none,.e (.box t1)⟩,Al 4 [.int .u32 0],Al 5 [.int .u32 0]]
abbrev C122_1 := Dr [Ld 7 none t2,Ca 8 124 [t7],Ld 9 none t3,Ca 10 124 [t9],Bn 11 .quo t8 t10,Ld 12 none t2,Ca 13 124 [t12],Ld 14 none t3,Ca 15 124 [t14],Bn 16 .rem t13 t15,Sxn 1 t4 t11,Sxn 1 t5 t16] [[],[0],[],[2,1],[1,3],[],[5,3],[],[7,6],[6,8],[4,8,0,1,2,3,4],[9,10,0,1,2,3,4,5,6,7,8,9,10]] [(0,[]),(2,[]),(5,[]),(7,[]),(1,[2,5,7]),(3,[5,7]),(4,[]),(6,[7,4]),(8,[4]),(9,[]),(10,[9]),(11,[])]
abbrev C122_2 := Sq [4,5] C122_1 .ret
abbrev C122x : ACode := C122_0
abbrev C122 := C122_2
abbrev C122r : List RV := [.c 4 none,.c 5 none]
abbrev C122d : Nat × Nat × List Operand := (6,123,[t2,t3,t4,t5]) -- .mkf 123
theorem C122ok : Okd Tryz.prog 122 Tryz.f122 C122x C122d C122 C122r := ⟨Tryz.func122, by kernel_rfl, by kernel_rfl, by kernel_rfl, by kernel_rfl⟩

/-- mimesis/muldiv.divided$1 -/
abbrev C123_0 := Dr [Ld 4 none t0,Ca 5 121 [t4],Ld 6 none t1,Ca 7 121 [t6],⟨(some 8),none,.r (.eqb true t5 t7)⟩] [[],[0],[],[2,1],[1,3]] [(0,[]),(2,[]),(1,[2]),(3,[]),(4,[])]
abbrev C123_1 := Ro [Ld 9 none t2,Un 10 .neg t9,Sxn 1 t2 t10]
abbrev C123_2 := Cd t8 C123_1 .skip
abbrev C123_3 := Sq [0,2,3,8] C123_0 C123_2
abbrev C123_4 := Ro [Ld 11 none t0,Ca 12 121 [t11]]
abbrev C123_5 := Ro [Ld 13 none t3,Un 14 .neg t13,Sxn 1 t3 t14]
abbrev C123_6 := Cd t12 C123_5 .skip
abbrev C123_7 := Sq [3,12] C123_4 C123_6
abbrev C123_8 := Sq [0,3] C123_3 C123_7
abbrev C123 := C123_8
abbrev C123r : List RV := []
theorem C123ok : Okf Tryz.prog 123 Tryz.f123 C123 C123r := ⟨Tryz.func123, by kernel_rfl, by kernel_rfl, by kernel_rfl⟩

/-- mimesis/muldiv.size -/
abbrev C124_0 := Ro [As 2 (kU 0)]
abbrev C124_1 := Ro [Mv 3 t0,Ca 4 121 [t3]]
abbrev C124_2 := Ro [Mv 5 t0,Un 6 .neg t5,As 2 t6]
abbrev C124_3 := Sq [2] C124_2 .ret
abbrev C124_4 := Cd t4 C124_3 .skip
abbrev C124_5 := Sq [0,4] C124_1 C124_4
abbrev C124_6 := Ro [Mv 7 t0,As 2 t7]
abbrev C124_7 := Sq [2] C124_6 .ret
abbrev C124_8 := Sq [0] C124_5 C124_7
abbrev C124_9 := Sq [0] C124_0 C124_8
abbrev C124 := C124_9
abbrev C124r : List RV := [.t 2]
theorem C124ok : Okf Tryz.prog 124 Tryz.f124 C124 C124r := ⟨Tryz.func124, by kernel_rfl, by kernel_rfl, by kernel_rfl⟩
end Go.Ab
end
section
/- Contracts of packages word, mimesisref01: bytes of words. -/
set_option linter.unusedSimpArgs false
set_option linter.unusedVariables false
namespace Go.Ab
open Go.Proofs
variable {G : Glo} {h : Heap}
theorem width_spec (n : Int) : Spec Tryz.prog G 80 [.int .i64 n] h (Is (.bool (n == 1 || n == 2 || n == 4)) h) := by
  refine Spec.is C80ok rfl ?_
  simp only [push_cast, simprocAttr]
theorem Le.tup1 {r r' : AV} {h h' : Heap} {k : IntKind} {x : Int} (hl : Le r h r' h') : Le (.tup [r, .int k x]) h (.tup [r', .int k x]) h' := by
  intro w v hw hr
  obtain ⟨cs, rfl, hl1, hr1⟩ := rep_tup hr
  obtain ⟨a, b, rfl⟩ : ∃ a b, cs = #[a, b] := by
    match cs, hl1 with
    | ⟨[a, b]⟩, _ => exact ⟨a, b, rfl⟩
  obtain ⟨x1, x2, x3⟩ := hl w a hw (hr1 0 r a rfl rfl)
  refine ⟨x1, .tup _ _ rfl fun i u c h1 h2 => ?_, x3⟩
  match i with
  | 0 => simp at h1 h2; subst h1; subst h2; exact x2
  | 1 =>
    simp at h1 h2; subst h1; subst h2
    have := hr1 1 (.int k x) b rfl rfl
    rw [rep_int this]; exact .int _ _
  | i + 2 => simp at h1
theorem Bytes_spec (w : BitVec 32) (n : Nat) (hn : n = 1 ∨ n = 2 ∨ n = 4) : Spec Tryz.prog G 50 [.int .u32 w.toNat, .int .i64 n] h (Is (.tup [byt (leB w n), .int .i64 0]) h) := by
  refine Spec.weak (Q := fun r h' => ∃ v, r = .tup [v, .int .i64 0] ∧ Own 1 h v (bys (leB w n)) n h') ?_ ?_
  · refine Spec.walk C50ok rfl ?_
    simp only [push_cast, simprocAttr]
    refine (width_spec n).to ?_
    have hb : ((n : Int) == 1 || (n : Int) == 2 || (n : Int) == 4) = true := by rcases hn with rfl | rfl | rfl <;> rfl
    simp only [push_cast, simprocAttr, hb]
    refine lpc.rel [0, 6, 11, 12] (fun m ρ h' => ∃ k v, m = n - k ∧ k ≤ n ∧ Own 1 h v (bys (leB w k)) k h' ∧ ρ = [(0, .int .u32 w.toNat), (6, v), (11, .int .i64 n), (12, .int .i64 k)]) ⟨n, 0, .nils, rfl, by omega, .nil, rfl⟩ ?_
    rintro m _ h' ⟨k, v, rfl, hk, ho, rfl⟩
    simp only [push_cast, simprocAttr]
    refine ⟨fun hk2 => ?_, fun hk2 => ?_⟩
    · have e8 : (8 * (k : Int)).toNat = 8 * k := by omega
      simp (disch := omega) only [push_cast, simprocAttr, wrap_i64, toNat_ofInt64, Nat.min_eq_left, Int.toNat_of_nonneg, e8]
      refine ho.app (m := 1) rfl (by omega) (by omega) fun v' h2 ho2 => ?_
      simp (disch := omega) only [push_cast, simprocAttr, wrap_i64, toNat_ofInt64, Nat.min_eq_left, Int.toNat_of_nonneg]
      exact ⟨_, _, by omega, .refl _, k + 1, v', rfl, by omega, by rw [leB_succ, bys_app]; exact ho2, rfl⟩
    · obtain rfl : k = n := by omega
      exact ⟨_, rfl, ho⟩
  · rintro _ h' ⟨v, rfl, ho⟩
    exact ⟨_, _, ⟨rfl, rfl⟩, by
      have := ho.freeze
      have := Le.tup1 (k := .i64) (x := 0) this
      simpa [byt, leB] using this⟩
theorem leN_take (bs : List (BitVec 8)) (k : Nat) (hk : k < bs.length) : leN (bs.take (k + 1)) = leN (bs.take k) + 256 ^ k * (bs.getD k 0#8).toNat := by
  rw [List.take_add_one, List.getElem?_eq_getElem hk, leN_app]
  simp [leN, Nat.min_eq_left (Nat.le_of_lt hk), hk]
theorem pow256 (k : Nat) : 256 ^ k = 2 ^ (8 * k) := by rw [Nat.pow_mul]
theorem Number_spec (bs : List (BitVec 8)) (hn : bs.length = 1 ∨ bs.length = 2 ∨ bs.length = 4) : Spec Tryz.prog G 111 [byt bs] h (Is (.tup [.int .u32 (BitVec.ofNat 32 (leN bs)).toNat, .int .i64 0]) h) := by
  refine Spec.is C111ok rfl ?_
  simp only [push_cast, simprocAttr, byt]
  refine (width_spec bs.length).to ?_
  have hb : ((bs.length : Int) == 1 || (bs.length : Int) == 2 || (bs.length : Int) == 4) = true := by rcases hn with h | h | h <;> rw [h] <;> rfl
  simp only [push_cast, simprocAttr, hb]
  refine lpc.rel [0, 4, 11, 12] (fun m ρ h' => ∃ k, m = bs.length - k ∧ k ≤ bs.length ∧ h' = h ∧ ρ = [(0, byt bs), (4, .int .u32 (BitVec.ofNat 32 (leN (bs.take k))).toNat), (11, .int .i64 bs.length), (12, .int .i64 k)]) ⟨bs.length, 0, rfl, by omega, rfl, rfl⟩ ?_
  rintro m _ _ ⟨k, rfl, hk, rfl, rfl⟩
  simp only [push_cast, simprocAttr, byt]
  refine ⟨fun hk2 => ?_, fun hk2 => ?_⟩
  · have e8 : (8 * (k : Int)).toNat = 8 * k := by omega
    simp (disch := omega) only [push_cast, simprocAttr, wrap_i64, toNat_ofInt64, Nat.min_eq_left, Int.toNat_of_nonneg, e8, hk2]
    have e : BitVec.ofNat 32 (leN (bs.take k)) ||| BitVec.setWidth 32 (bs.getD k 0#8) <<< (8 * k) = BitVec.ofNat 32 (leN (bs.take (k + 1))) := by
      have h1 : BitVec.setWidth 32 (bs.getD k 0#8) = BitVec.ofNat 32 (bs.getD k 0#8).toNat := by rw [BitVec.ofNat_toNat]
      have h2 := leN_lt (bs.take k)
      rw [List.length_take, Nat.min_eq_left hk, pow256] at h2
      rw [h1, or_shl _ _ _ h2, leN_take bs k hk2, pow256]
    rw [e]
    exact ⟨_, _, by omega, .refl _, k + 1, rfl, by omega, rfl, rfl⟩
  · obtain rfl : k = bs.length := by omega
    simp
end Go.Ab
end
section
/- Contracts: words as signed numbers, and what the document says of them. -/

set_option linter.unusedSimpArgs false
set_option linter.unusedVariables false
set_option maxRecDepth 10000
namespace Go.Ab
open Go.Proofs
variable {G : Glo} {h : Heap}
@[push_cast] theorem i32_wrap (x : BitVec 32) : IntKind.i32.wrap (x.toNat : Int) = x.toInt := by
  have := x.isLt
  rw [BitVec.toInt_eq_toNat_cond]
  simp only [IntKind.wrap, IntKind.signed, IntKind.bits]
  simp
  split <;> omega
@[push_cast] theorem bits_i32 : IntKind.i32.bits = 32 := rfl
theorem pow_int (k : Nat) : ((2 : Int) ^ k) = ((2 ^ k : Nat) : Int) := by push_cast; rfl
/-- A number of k bits, as a signed word. -/
def extN (n k : Nat) : Nat := if 2 ^ (k - 1) ≤ n % 2 ^ k then n % 2 ^ k + 2 ^ 32 - 2 ^ k else n % 2 ^ k
theorem extN_lt (n k : Nat) (hk : k ≤ 32) : extN n k < 2 ^ 32 := by
  have h1 : n % 2 ^ k < 2 ^ k := Nat.mod_lt _ (Nat.two_pow_pos k)
  have h2 : 2 ^ k ≤ 2 ^ 32 := Nat.pow_le_pow_right (by omega) hk
  unfold extN; split <;> omega
end Go.Ab
end
section
/- Memory: the program's, in blocks of one's own. -/
set_option linter.unusedSimpArgs false
set_option linter.unusedVariables false
set_option maxRecDepth 10000
namespace Go.Ab
open Go.Proofs
variable {G : Glo} {h : Heap}
def bos (l : List Bool) : List AV := l.map .bool
def qws (l : List (BitVec 64)) : List AV := l.map fun x => .int .u64 (x.toNat : Int)
@[push_cast] theorem bos_len (l) : (bos l).length = l.length := by simp [bos]
@[push_cast] theorem qws_len (l) : (qws l).length = l.length := by simp [qws]
@[push_cast] theorem bos_get (l : List Bool) (i : Nat) : (bos l)[i]? = if i < l.length then some (AV.bool (l.getD i false)) else none := by
  simp only [bos, List.getElem?_map]
  split
  · rename_i h; simp [h]
  · rename_i h; simp [Nat.not_lt.1 h]
@[push_cast] theorem qws_get (l : List (BitVec 64)) (i : Nat) : (qws l)[i]? = if i < l.length then some (AV.int .u64 ((l.getD i 0#64).toNat : Int)) else none := by
  simp only [qws, List.getElem?_map]
  split
  · rename_i h; simp [h]
  · rename_i h; simp [Nat.not_lt.1 h]
@[push_cast] theorem bos_set (l : List Bool) (i : Nat) (b : Bool) : (bos l).set i (.bool b) = bos (l.set i b) := by simp [bos, List.map_set]
@[push_cast] theorem qws_set (l : List (BitVec 64)) (i : Nat) (x : BitVec 64) : (qws l).set i (.int .u64 (x.toNat : Int)) = qws (l.set i x) := by simp [qws, List.map_set]
/-- A memory: its bytes, and of each page whether it is watched, and its generation. -/
structure IRam where
  b : List (BitVec 8)
  w : List Bool
  g : List (BitVec 64)
/-- Where a memory lies: its box, and its rows. -/
structure Pl where
  p : Nat
  b : Nat
  w : Nat
  g : Nat
structure Pl.ok (l : Pl) : Prop where
  pb : l.p ≠ l.b
  pw : l.p ≠ l.w
  pg : l.p ≠ l.g
  bw : l.b ≠ l.w
  bg : l.b ≠ l.g
  wg : l.w ≠ l.g
def Pl.has (l : Pl) (c : Nat) : Prop := c = l.p ∨ c = l.b ∨ c = l.w ∨ c = l.g
def IRam.wf (M : IRam) : Prop := 64 ≤ M.b.length ∧ M.b.length ≤ 65536 ∧ M.b.length % 64 = 0 ∧ M.w.length = M.b.length / 64 ∧ M.g.length = M.b.length / 64
structure RamAt (H : Heap) (l : Pl) (M : IRam) : Prop where
  ok : l.ok
  wf : M.wf
  hp : H l.p = some ⟨[.sl l.b 0 M.b.length M.b.length, .sl l.w 0 M.w.length M.w.length, .sl l.g 0 M.g.length M.g.length], 0⟩
  hb : H l.b = some ⟨bys M.b, 0⟩
  hw : H l.w = some ⟨bos M.w, 0⟩
  hg : H l.g = some ⟨qws M.g, 0⟩
theorem RamAt.upd {H : Heap} {l : Pl} {M : IRam} (hr : RamAt H l M) {c : Nat} {X : Blk} (hc : ¬ l.has c) : RamAt (Ab.upd H c X) l M := by
  simp only [Pl.has, not_or] at hc
  exact ⟨hr.ok, hr.wf, by rw [upd_ne (Ne.symm hc.1)]; exact hr.hp, by rw [upd_ne (Ne.symm hc.2.1)]; exact hr.hb, by rw [upd_ne (Ne.symm hc.2.2.1)]; exact hr.hw, by rw [upd_ne (Ne.symm hc.2.2.2)]; exact hr.hg⟩
theorem RamAt.not {H : Heap} {l : Pl} {M : IRam} (hr : RamAt H l M) {c : Nat} (hc : H c = none) : ¬ l.has c := by
  rintro (rfl | rfl | rfl | rfl)
  · rw [hr.hp] at hc; cases hc
  · rw [hr.hb] at hc; cases hc
  · rw [hr.hw] at hc; cases hc
  · rw [hr.hg] at hc; cases hc
/-- Are addresses there? -/
def hasN (len : Nat) (addr : BitVec 32) (n : Int) : Bool := decide (1 ≤ n) && decide (n ≤ len) && decide (2147483648 ≤ addr.toNat) && decide ((addr.toNat : Int) - 2147483648 ≤ len - n)
def askedN (len : Nat) (addr : BitVec 32) (n : Int) : Int := if ¬ (n = 1 ∨ n = 2 ∨ n = 4) then 2 else if (addr.toNat : Int) % n ≠ 0 then 5 else if hasN len addr n then 0 else 6
theorem sub_base (addr : BitVec 32) (ha : 2147483648 ≤ addr.toNat) : (addr - 2147483648#32).toNat = addr.toNat - 2147483648 := by
  have := addr.isLt
  rw [BitVec.toNat_sub]; simp; omega
section
variable {l : Pl} {M : IRam}
theorem Has_spec (hr : RamAt h l M) (addr : BitVec 32) (n : Int) (hn : n ≤ 9223372036854775807) (hn0 : -9223372036854775808 ≤ n) : Spec Tryz.prog G 48 [.ptr l.p 0, .int .u32 addr.toNat, .int .i64 n] h (Is (.bool (hasN M.b.length addr n)) h) := by
  have hp := hr.hp
  have hw := hr.wf
  unfold IRam.wf at hw
  have hN : hasN M.b.length addr n = (decide (1 ≤ n) && decide (n ≤ M.b.length) && decide (2147483648 ≤ addr.toNat) && decide ((addr.toNat : Int) - 2147483648 ≤ M.b.length - n)) := rfl
  generalize hasN M.b.length addr n = N at hN ⊢
  refine Spec.is C48ok rfl ?_
  simp only [push_cast, simprocAttr, hp]
  refine ⟨fun q => ?_, fun q => ?_⟩
  · rw [hN]; (first | rfl | (congr 1; done) | (congr 1; rw [Bool.eq_iff_iff]; simp only [Bool.and_eq_true, Bool.or_eq_true, Bool.not_eq_true', decide_eq_true_eq, decide_eq_false_iff_not, Bool.false_eq_true, true_and, and_true]; first | omega | grind))
  · rw [sub_base addr (by omega), wrap_i64 (by omega) (by omega), hN]; (first | rfl | (congr 1; done) | (congr 1; rw [Bool.eq_iff_iff]; simp only [Bool.and_eq_true, Bool.or_eq_true, Bool.not_eq_true', decide_eq_true_eq, decide_eq_false_iff_not, Bool.false_eq_true, true_and, and_true]; first | omega | grind))
theorem Has_nil (addr : BitVec 32) (n : Int) : Spec Tryz.prog G 48 [.nilp, .int .u32 addr.toNat, .int .i64 n] h (Is (.bool false) h) := by
  refine Spec.is C48ok rfl ?_
  simp only [push_cast, simprocAttr]
theorem tmod_124 (a : BitVec 32) (n : Int) (hn : n = 1 ∨ n = 2 ∨ n = 4) : (a.toNat : Int).tmod ((BitVec.ofInt 32 n).toNat : Int) = (a.toNat : Int) % n ∧ (((BitVec.ofInt 32 n).toNat : Int) = 0) = False := by
  rcases hn with rfl | rfl | rfl
  · exact ⟨by rw [show ((BitVec.ofInt 32 1).toNat : Int) = 1 from rfl, Int.tmod_eq_emod_of_nonneg (by omega)], by simp⟩
  · exact ⟨by rw [show ((BitVec.ofInt 32 2).toNat : Int) = 2 from rfl, Int.tmod_eq_emod_of_nonneg (by omega)], by simp⟩
  · exact ⟨by rw [show ((BitVec.ofInt 32 4).toNat : Int) = 4 from rfl, Int.tmod_eq_emod_of_nonneg (by omega)], by simp⟩
theorem asked_spec (hr : RamAt h l M) (addr : BitVec 32) (n : Int) : Spec Tryz.prog G 49 [.ptr l.p 0, .int .u32 addr.toNat, .int .i64 n] h (Is (.int .i64 (askedN M.b.length addr n)) h) := by
  by_cases hn : n = 1 ∨ n = 2 ∨ n = 4
  · obtain ⟨t1, t2⟩ := tmod_124 addr n hn
    have hN : askedN M.b.length addr n = if (addr.toNat : Int) % n ≠ 0 then 5 else if hasN M.b.length addr n then 0 else 6 := by rw [askedN, if_neg (fun q => q hn)]
    have e0 : (((n != 1) && (n != 2)) && (n != 4)) = false := by rcases hn with rfl | rfl | rfl <;> rfl
    rw [hN]
    refine Spec.is C49ok rfl ?_
    simp only [push_cast, simprocAttr, t1, t2, e0]
    by_cases hm : (addr.toNat : Int) % n = 0
    · simp only [push_cast, simprocAttr, t1, t2, e0, hm]
      refine (Has_spec hr addr n (by omega) (by omega)).to ?_
      cases hH : hasN M.b.length addr n
      · simp only [push_cast, simprocAttr]
      · simp only [push_cast, simprocAttr]
    · simp only [push_cast, simprocAttr, t1, t2, e0, hm]
  · have hN : askedN M.b.length addr n = 2 := by rw [askedN, if_pos hn]
    have e0 : (((n != 1) && (n != 2)) && (n != 4)) = true := by simp; omega
    rw [hN]
    refine Spec.is C49ok rfl ?_
    simp only [push_cast, simprocAttr, e0]
theorem asked_nil (addr : BitVec 32) (n : Int) : Spec Tryz.prog G 49 [.nilp, .int .u32 addr.toNat, .int .i64 n] h (Is (.int .i64 2) h) := by
  refine Spec.is C49ok rfl ?_
  simp only [push_cast, simprocAttr]
theorem at_spec (hr : RamAt h l M) (addr : BitVec 32) (n : Nat) (hh : hasN M.b.length addr n = true) : Spec Tryz.prog G 51 [.ptr l.p 0, .int .u32 addr.toNat, .int .i64 n] h (Is (.sl l.b (addr.toNat - 2147483648) n n) h) := by
  have hp := hr.hp
  have hw := hr.wf
  unfold IRam.wf at hw
  simp only [hasN, Bool.and_eq_true, decide_eq_true_eq] at hh
  have e1 := sub_base addr (by omega)
  obtain ⟨k, hk⟩ : ∃ k, addr.toNat - 2147483648 = k := ⟨_, rfl⟩
  rw [hk] at e1 ⊢
  refine Spec.is C51ok rfl ?_
  simp (disch := omega) only [push_cast, simprocAttr, wrap_i64, toNat_ofInt64, Nat.min_eq_left, Int.toNat_of_nonneg, hp, e1]
  refine ⟨⟨⟨by omega, by omega⟩, ⟨by omega, by omega⟩, by omega⟩, ?_⟩
  rw [show ((k : Int) + n).toNat - k = n by omega]
theorem Arg1.part {h : Heap} {b o n cap : Nat} {x : Blk} {cells : List AV} (hb : h b = some x) (hc : ∀ (i : Nat) v, cells[i]? = some v → x.cells[o + i]? = some v) (h0 : n = 0 → cells = []) : Arg1 h (.sl b o n cap) (.ro cells n) :=
  fun w v hw hr => row_rep hw hb hc h0 hr (fun h => h) (fun _ _ h => h)
def IRam.load (M : IRam) (addr : BitVec 32) (n : Nat) : BitVec 32 := BitVec.ofNat 32 (leN ((M.b.drop (addr.toNat - 2147483648)).take n))
theorem Load_spec (hr : RamAt h l M) (addr : BitVec 32) (n : Int) : Spec Tryz.prog G 95 [.ptr l.p 0, .int .u32 addr.toNat, .int .i64 n] h
    (Is (.tup [.int .u32 (if askedN M.b.length addr n = 0 then M.load addr n.toNat else 0#32).toNat, .int .i64 (askedN M.b.length addr n)]) h) := by
  refine Spec.is C95ok rfl ?_
  simp only [push_cast, simprocAttr]
  refine (asked_spec hr addr n).to ?_
  by_cases hz : askedN M.b.length addr n = 0
  · have hz' : (askedN M.b.length addr n != 0) = false := by simp [hz]
    rw [if_pos hz]
    obtain ⟨N, rfl⟩ : ∃ N : Nat, n = N := ⟨n.toNat, by unfold askedN at hz; split at hz <;> omega⟩
    simp only [push_cast, simprocAttr, hz']
    refine (at_spec hr addr N (by unfold askedN at hz; split at hz; omega; split at hz; omega; split at hz; assumption; omega)).to ?_
    simp only [push_cast, simprocAttr, hz']
    have hH : hasN M.b.length addr N = true := by unfold askedN at hz; split at hz; omega; split at hz; omega; split at hz; assumption; omega
    have hn : N = 1 ∨ N = 2 ∨ N = 4 := by unfold askedN at hz; split at hz <;> omega
    simp only [hasN, Bool.and_eq_true, decide_eq_true_eq] at hH
    have hl : ((M.b.drop (addr.toNat - 2147483648)).take N).length = N := by rw [List.length_take, List.length_drop]; omega
    refine Spec.borrow (Number_spec ((M.b.drop (addr.toNat - 2147483648)).take N) (by rw [hl]; exact hn)) (.cons ?_ .nil) ?_
    · rw [byt, hl]
      refine Arg1.part hr.hb (fun i v hv => ?_) (fun e => by omega)
      rw [← bys_take, ← bys_drop, List.getElem?_take] at hv
      split at hv
      · rw [List.getElem?_drop] at hv; exact hv
      · cases hv
    · rintro _ _ ⟨rfl, rfl⟩
      refine ⟨rfl, ?_⟩
      simp only [push_cast, simprocAttr, hz]
      rfl
  · have hz' : (askedN M.b.length addr n != 0) = true := by simp [hz]
    rw [if_neg hz]
    simp only [push_cast, simprocAttr, hz']
def IRam.page (M : IRam) (addr : BitVec 32) : Int := if hasN M.b.length addr 1 then (((addr.toNat - 2147483648) / 64 : Nat) : Int) else -1
theorem Page_spec (hr : RamAt h l M) (addr : BitVec 32) : Spec Tryz.prog G 52 [.ptr l.p 0, .int .u32 addr.toNat] h (Is (.int .i64 (M.page addr)) h) := by
  refine Spec.is C52ok rfl ?_
  simp only [push_cast, simprocAttr]
  refine (Has_spec hr addr 1 (by omega) (by omega)).to ?_
  unfold IRam.page
  cases hH : hasN M.b.length addr 1 with
  | false => simp only [push_cast, simprocAttr]
  | true =>
    simp only [hasN, Bool.and_eq_true, decide_eq_true_eq] at hH
    have e1 := sub_base addr (by omega)
    have := addr.isLt
    simp only [push_cast, simprocAttr, e1]
    rw [wrap_i64 (x := ((addr.toNat - 2147483648 : Nat) : Int)) (by omega) (by omega), Int.tdiv_eq_ediv_of_nonneg (by omega), wrap_i64 (by omega) (by omega)]
theorem bys_splice (b c : List (BitVec 8)) (k : Nat) (hk : k + c.length ≤ b.length) : splice (bys b) k (bys c) = bys (b.take k ++ c ++ b.drop (k + c.length)) := by
  apply List.ext_getElem?
  intro i
  rw [splice_get (by simpa [bys] using hk)]
  simp only [bys, List.getElem?_map, List.length_map, List.map_append]
  split
  · rename_i hi
    rw [List.getElem?_append_left (by simp; omega), List.getElem?_append_right (by simp; omega), List.getElem?_map]
    simp [Nat.min_eq_left (show k ≤ b.length by omega)]
  · rename_i hi
    by_cases hlt : i < k
    · rw [List.getElem?_append_left (by simp; omega), List.getElem?_append_left (by simp; omega), List.getElem?_map, List.getElem?_take, if_pos hlt]
    · rw [List.getElem?_append_right (by simp; omega), List.getElem?_map, List.getElem?_drop]
      simp only [List.length_append, List.length_map, List.length_take]
      rw [show k + c.length + (i - (min k b.length + c.length)) = i by omega]
/-- Behind a call that writes to a memory alone. -/
def RamTo (l : Pl) (M : IRam) (v : AV) (h : Heap) (r : AV) (h' : Heap) : Prop := r = v ∧ RamAt h' l M ∧ ∀ c, ¬ l.has c → h' c = h c
/-- Bytes laid at an address. -/
def IRam.put (M : IRam) (k : Nat) (c : List (BitVec 8)) : IRam := { M with b := M.b.take k ++ c ++ M.b.drop (k + c.length) }
theorem put_len (M : IRam) (k : Nat) (c : List (BitVec 8)) (hk : k + c.length ≤ M.b.length) : (M.put k c).b.length = M.b.length := by simp [IRam.put]; omega
theorem RamAt.put {H : Heap} (hr : RamAt H l M) (k : Nat) (c : List (BitVec 8)) (hk : k + c.length ≤ M.b.length) : RamAt (Ab.upd H l.b ⟨bys (M.put k c).b, 0⟩) l (M.put k c) := by
  have hl := put_len M k c hk
  have ho := hr.ok
  refine ⟨ho, ?_, ?_, upd_same _ _ _, ?_, ?_⟩
  · have := hr.wf; unfold IRam.wf at this ⊢; rw [hl]; exact this
  · rw [upd_ne ho.pb, hl]; exact hr.hp
  · rw [upd_ne (Ne.symm ho.bw)]; exact hr.hw
  · rw [upd_ne (Ne.symm ho.bg)]; exact hr.hg
theorem RamAt.setW {H : Heap} (hr : RamAt H l M) (p : Nat) (b : Bool) : RamAt (Ab.upd H l.w ⟨bos (M.w.set p b), 0⟩) l { M with w := M.w.set p b } := by
  have ho := hr.ok
  refine ⟨ho, ?_, ?_, ?_, upd_same _ _ _, ?_⟩
  · have := hr.wf; unfold IRam.wf at this ⊢; simpa using this
  · rw [upd_ne ho.pw]; simpa using hr.hp
  · rw [upd_ne ho.bw]; exact hr.hb
  · rw [upd_ne (Ne.symm ho.wg)]; exact hr.hg
theorem RamAt.setG {H : Heap} (hr : RamAt H l M) (p : Nat) (x : BitVec 64) : RamAt (Ab.upd H l.g ⟨qws (M.g.set p x), 0⟩) l { M with g := M.g.set p x } := by
  have ho := hr.ok
  refine ⟨ho, ?_, ?_, ?_, ?_, upd_same _ _ _⟩
  · have := hr.wf; unfold IRam.wf at this ⊢; simpa using this
  · rw [upd_ne ho.pg]; simpa using hr.hp
  · rw [upd_ne ho.bg]; exact hr.hb
  · rw [upd_ne ho.wg]; exact hr.hw
def fillE (len : Nat) (addr : BitVec 32) (n : Nat) : Int := if n = 0 then 0 else if hasN len addr n then 0 else 6
def IRam.fill (M : IRam) (addr : BitVec 32) (c : List (BitVec 8)) : IRam := if c.length ≠ 0 ∧ hasN M.b.length addr c.length = true then M.put (addr.toNat - 2147483648) c else M
theorem Fill_spec (hr : RamAt h l M) (addr : BitVec 32) (c : List (BitVec 8)) (hc : c.length ≤ 140737488355328) : Spec Tryz.prog G 66 [.ptr l.p 0, .int .u32 addr.toNat, byt c] h
    (RamTo l (M.fill addr c) (.int .i64 (fillE M.b.length addr c.length)) h) := by
  have hA : fillE M.b.length addr c.length = if c.length = 0 then 0 else if hasN M.b.length addr c.length then 0 else 6 := rfl
  have hF : M.fill addr c = if c.length ≠ 0 ∧ hasN M.b.length addr c.length = true then M.put (addr.toNat - 2147483648) c else M := rfl
  by_cases h0 : c.length = 0
  · have h0' : (c.length : Int) = 0 := by omega
    rw [if_pos h0] at hA
    rw [if_neg (fun q => q.1 h0)] at hF
    rw [hA, hF]
    refine Spec.walk C66ok rfl ?_
    simp only [push_cast, simprocAttr, h0']
    exact ⟨rfl, hr, fun _ _ => rfl⟩
  · have h0' : ((c.length : Int) = 0) = False := by simp only [eq_iff_iff, iff_false]; omega
    rw [if_neg h0] at hA
    have hS := Has_spec (G := G) hr addr c.length (by omega) (by omega)
    cases hH : hasN M.b.length addr c.length with
    | false =>
      rw [hH] at hA hF hS
      rw [if_neg (by simp)] at hA
      rw [if_neg (fun q => by cases q.2)] at hF
      rw [hA, hF]
      refine Spec.walk C66ok rfl ?_
      simp only [push_cast, simprocAttr, h0']
      refine hS.to ?_
      simp only [push_cast, simprocAttr]
      exact ⟨rfl, hr, fun _ _ => rfl⟩
    | true =>
      rw [hH] at hA hF hS
      rw [if_pos rfl] at hA
      rw [if_pos ⟨h0, rfl⟩] at hF
      rw [hA, hF]
      refine Spec.walk C66ok rfl ?_
      simp only [push_cast, simprocAttr, h0']
      refine hS.to ?_
      simp only [push_cast, simprocAttr]
      refine (at_spec hr addr c.length hH).to ?_
      simp only [hasN, Bool.and_eq_true, decide_eq_true_eq] at hH
      have hb := hr.hb
      simp only [push_cast, simprocAttr, hb]
      refine ⟨by omega, ?_⟩
      rw [List.take_of_length_le (by simp [bys]), bys_splice _ _ _ (by omega)]
      have := hr.put (addr.toNat - 2147483648) c (by omega)
      refine ⟨rfl, this, fun d hd => ?_⟩
      rw [upd_ne (fun e => hd (.inr (.inl e)))]
def IRam.store (M : IRam) (addr : BitVec 32) (n : Nat) (w : BitVec 32) : IRam × Bool :=
  let k := addr.toNat - 2147483648
  let N := M.put k (leB w n)
  if M.w.getD (k / 64) false then ({ N with w := N.w.set (k / 64) false, g := N.g.set (k / 64) (N.g.getD (k / 64) 0#64 + 1#64) }, true) else (N, false)
theorem Store_spec (hr : RamAt h l M) (addr : BitVec 32) (n : Int) (w : BitVec 32) : Spec Tryz.prog G 26 [.ptr l.p 0, .int .u32 addr.toNat, .int .i64 n, .int .u32 w.toNat] h
    (if askedN M.b.length addr n = 0 then RamTo l (M.store addr n.toNat w).1 (.tup [.bool (M.store addr n.toNat w).2, .int .i64 0]) h else RamTo l M (.tup [.bool false, .int .i64 (askedN M.b.length addr n)]) h) := by
  refine Spec.walk C26ok rfl ?_
  simp only [push_cast, simprocAttr]
  refine (asked_spec hr addr n).to ?_
  by_cases hz : askedN M.b.length addr n = 0
  · have hz' : (askedN M.b.length addr n != 0) = false := by simp [hz]
    rw [if_pos hz]
    obtain ⟨N, rfl⟩ : ∃ N : Nat, n = N := ⟨n.toNat, by unfold askedN at hz; split at hz <;> omega⟩
    have hH : hasN M.b.length addr N = true := by unfold askedN at hz; split at hz; omega; split at hz; omega; split at hz; assumption; omega
    have hn : N = 1 ∨ N = 2 ∨ N = 4 := by unfold askedN at hz; split at hz <;> omega
    simp only [push_cast, simprocAttr, hz']
    refine (Bytes_spec w N hn).to ?_
    simp only [push_cast, simprocAttr]
    refine (at_spec hr addr N hH).to ?_
    have hb := hr.hb
    simp only [push_cast, simprocAttr, hb]
    have hH' := hH
    simp only [hasN, Bool.and_eq_true, decide_eq_true_eq] at hH'
    have hll : (leB w N).length = N := leB_len w N
    obtain ⟨k, hk⟩ : ∃ k, addr.toNat - 2147483648 = k := ⟨_, rfl⟩
    have hS : M.store addr N w = (if M.w.getD (k / 64) false then ({ M.put k (leB w N) with w := (M.put k (leB w N)).w.set (k / 64) false, g := (M.put k (leB w N)).g.set (k / 64) ((M.put k (leB w N)).g.getD (k / 64) 0#64 + 1#64) }, true) else (M.put k (leB w N), false)) := by simp only [IRam.store, hk]
    rw [hk]
    refine ⟨by omega, ?_⟩
    rw [List.take_of_length_le (by simp [bys, hll]), bys_splice _ _ _ (by omega)]
    have hr1 := hr.put k (leB w N) (by omega)
    have hsm : ∀ c, ¬ l.has c → (upd h l.b ⟨bys (M.put k (leB w N)).b, 0⟩) c = h c := fun c hc => upd_ne (fun e => hc (.inr (.inl e)))
    have hlen := put_len M k (leB w N) (by omega)
    have hpg : (M.put k (leB w N)).page addr = ((k / 64 : Nat) : Int) := by
      rw [IRam.page, hlen, if_pos (by simp only [hasN, Bool.and_eq_true, decide_eq_true_eq]; omega), hk]
    have hwf := hr.wf
    unfold IRam.wf at hwf
    have hMw : (M.put k (leB w N)).w = M.w := rfl
    have hMg : (M.put k (leB w N)).g = M.g := rfl
    obtain ⟨M1, hM1⟩ : ∃ M1, M.put k (leB w N) = M1 := ⟨_, rfl⟩
    change Spec _ _ _ _ (upd h l.b ⟨bys (M.put k (leB w N)).b, 0⟩) _
    rw [hM1] at hS hr1 hsm hlen hpg hMw hMg ⊢
    obtain ⟨H1, hH1⟩ : ∃ H1, upd h l.b ⟨bys M1.b, 0⟩ = H1 := ⟨_, rfl⟩
    rw [hH1] at hr1 hsm ⊢
    refine (Page_spec hr1 addr).to ?_
    obtain ⟨p, hp⟩ : ∃ p, k / 64 = p := ⟨_, rfl⟩
    have hpl : p < M1.w.length := by rw [hMw]; omega
    have hpl2 : p < M1.g.length := by rw [hMg]; omega
    rw [hpg, hp]
    rw [hp] at hS
    have q1 := hr1.hp
    have q2 := hr1.hw
    have q3 := hr1.hg
    simp only [push_cast, simprocAttr, q1, q2]
    refine ⟨by omega, hpl, ?_⟩
    rw [← hMw] at hS
    refine ⟨fun hit => ⟨hpl, by omega, ?_⟩, fun hit => ?_⟩
    · have hr2 := hr1.setW p false
      have hsm2 : ∀ c, ¬ l.has c → (upd H1 l.w ⟨bos (M1.w.set p false), 0⟩) c = h c := fun c hc => by rw [upd_ne (fun e => hc (.inr (.inr (.inl e)))), hsm c hc]
      obtain ⟨H2, hH2⟩ : ∃ H2, upd H1 l.w ⟨bos (M1.w.set p false), 0⟩ = H2 := ⟨_, rfl⟩
      rw [hH2] at hr2 hsm2 ⊢
      have q4 := hr2.hp
      have q5 := hr2.hg
      simp only [push_cast, simprocAttr, q4, q5]
      refine ⟨by omega, hpl2, hpl2, by omega, ?_⟩
      rw [if_pos hit] at hS
      rw [hS]
      have hr3 := hr2.setG p (M1.g.getD p 0#64 + 1#64)
      refine ⟨by rw [hit], hr3, fun c hc => ?_⟩
      rw [upd_ne (fun e => hc (.inr (.inr (.inr e)))), hsm2 c hc]
    · rw [if_neg (by rw [hit]; simp)] at hS
      rw [hS]
      exact ⟨by rw [hit], hr1, hsm⟩
  · have hz' : (askedN M.b.length addr n != 0) = true := by simp [hz]
    rw [if_neg hz]
    simp only [push_cast, simprocAttr, hz']
    exact ⟨rfl, hr, fun _ _ => rfl⟩
end
end Go.Ab
end
section
/- Memory: made anew, watched, and all its bytes. -/
set_option linter.unusedSimpArgs false
set_option linter.unusedVariables false
set_option maxRecDepth 10000
namespace Go.Ab
open Go.Proofs
variable {G : Glo} {h : Heap}
section
variable {l : Pl} {M : IRam}
def rightN (n : Int) : Bool := decide (64 ≤ n) && decide (n ≤ 65536) && decide (n % 64 = 0)
def IRam.new (n : Nat) : IRam := ⟨List.replicate n 0, List.replicate (n / 64) false, List.replicate (n / 64) 0⟩
/-- A memory that is made anew. -/
def RamNew (h : Heap) (n : Nat) (r : AV) (h' : Heap) : Prop := ∃ l : Pl, r = .tup [.ptr l.p 0, .int .i64 0] ∧ RamAt h' l (IRam.new n) ∧ (∀ c, l.has c → h c = none) ∧ ∀ c, ¬ l.has c → h' c = h c
theorem new_cells (n : Nat) : bys (List.replicate n 0) = List.replicate n (AV.int .u8 0) ∧ bos (List.replicate n false) = List.replicate n (AV.bool false) ∧ qws (List.replicate n 0) = List.replicate n (AV.int .u64 0) := by
  simp [bys, bos, qws]
theorem New_no (n : Int) (hn : rightN n = false) : Spec Tryz.prog G 36 [.int .i64 n] h (Is (.tup [.nilp, .int .i64 4]) h) := by
  have hc : ((decide (n < 64) || decide (n > 65536)) || (n.tmod 64 != 0)) = true := by
    simp only [rightN, Bool.and_eq_false_iff, decide_eq_false_iff_not] at hn
    simp only [Bool.or_eq_true, decide_eq_true_eq, bne_iff_ne]
    by_cases h64 : n < 64
    · exact .inl (.inl h64)
    · rw [Int.tmod_eq_emod_of_nonneg (by omega)]
      omega
  refine Spec.is C36ok rfl ?_
  simp only [push_cast, simprocAttr, hc]
theorem New_spec (n : Nat) (hn : rightN n = true) : Spec Tryz.prog G 36 [.int .i64 n] h (RamNew h n) := by
  simp only [rightN, Bool.and_eq_true, decide_eq_true_eq] at hn
  have hc : ((decide ((n : Int) < 64) || decide ((n : Int) > 65536)) || ((n : Int).tmod 64 != 0)) = false := by
    simp only [Bool.or_eq_false_iff, decide_eq_false_iff_not, bne_eq_false_iff_eq]
    rw [Int.tmod_eq_emod_of_nonneg (by omega)]
    omega
  have hq : (n : Int).tdiv 64 = ((n / 64 : Nat) : Int) := by simp
  obtain ⟨p, hp⟩ : ∃ p, n / 64 = p := ⟨_, rfl⟩
  rw [hp] at hq
  obtain ⟨c1, c2, c3⟩ := new_cells n
  obtain ⟨d1, d2, d3⟩ := new_cells p
  have fin : ∀ (b1 b2 b3 b4 : Nat) (H : Heap), (h b1 = none ∧ h b2 = none ∧ h b3 = none ∧ h b4 = none) → (b1 ≠ b2 ∧ b1 ≠ b3 ∧ b2 ≠ b3 ∧ b4 ≠ b1 ∧ b4 ≠ b2 ∧ b4 ≠ b3) →
      H b1 = some ⟨List.replicate n (.int .u8 0), 0⟩ → H b2 = some ⟨List.replicate p (.bool false), 0⟩ → H b3 = some ⟨List.replicate p (.int .u64 0), 0⟩ → H b4 = some ⟨[.sl b1 0 n n, .sl b2 0 p p, .sl b3 0 p p], 0⟩ →
      (∀ c, c ≠ b1 → c ≠ b2 → c ≠ b3 → c ≠ b4 → H c = h c) → RamNew h n (.tup [.ptr b4 0, .int .i64 0]) H := by
    intro b1 b2 b3 b4 H ⟨f1, f2, f3, f4⟩ ⟨n12, n13, n23, n41, n42, n43⟩ h1 h2 h3 h4 ho
    refine ⟨⟨b4, b1, b2, b3⟩, rfl, ⟨⟨n41, n42, n43, n12, n13, n23⟩, ?_, ?_, ?_, ?_, ?_⟩, ?_, ?_⟩
    · unfold IRam.wf IRam.new; simp; omega
    · rw [h4]; simp [IRam.new, hp]
    · rw [h1, ← c1]; rfl
    · rw [h2, ← d2, ← hp]; rfl
    · rw [h3, ← d3, ← hp]; rfl
    · rintro c (rfl | rfl | rfl | rfl) <;> assumption
    · intro c hc
      simp only [Pl.has, not_or] at hc
      exact ho c hc.2.1 hc.2.2.1 hc.2.2.2 hc.1
  refine Spec.walk C36ok rfl ?_
  have z1 : ((n : Int) - (n : Int)).toNat = 0 := by omega
  have z2 : ((p : Int) - (p : Int)).toNat = 0 := by omega
  have z3 : ∀ (x y z u : Nat), x ≠ y → x ≠ z → y ≠ z → u ≠ x → u ≠ y → u ≠ z → ∀ A B C D : Blk, upd (upd (upd (upd h x A) y B) z C) u D x = some A ∧ upd (upd (upd (upd h x A) y B) z C) u D y = some B ∧ upd (upd (upd (upd h x A) y B) z C) u D z = some C ∧
      upd (upd (upd (upd h x A) y B) z C) u D u = some D ∧ ∀ c, c ≠ x → c ≠ y → c ≠ z → c ≠ u → upd (upd (upd (upd h x A) y B) z C) u D c = h c := by
    intro x y z u q1 q2 q3 q4 q5 q6 A B C D
    refine ⟨?_, ?_, ?_, upd_same _ _ _, fun c k1 k2 k3 k4 => ?_⟩
    · rw [upd_ne (Ne.symm q4), upd_ne q2, upd_ne q1, upd_same]
    · rw [upd_ne (Ne.symm q5), upd_ne q3, upd_same]
    · rw [upd_ne (Ne.symm q6), upd_same]
    · rw [upd_ne k4, upd_ne k3, upd_ne k2, upd_ne k1]
  simp (disch := omega) only [push_cast, simprocAttr, wrap_i64, toNat_ofInt64, Nat.min_eq_left, Int.toNat_of_nonneg, hc, hq, z1, z2]
  (repeat' (first | apply And.intro | intro _)) <;> first
    | omega
    | (rename_i b0 e0 b1 e1 b2 e2 b3 e3
       obtain ⟨n10, f1⟩ := upd_none e1
       obtain ⟨n21, e2'⟩ := upd_none e2
       obtain ⟨n20, f2⟩ := upd_none e2'
       obtain ⟨n32, e3'⟩ := upd_none e3
       obtain ⟨n31, e3''⟩ := upd_none e3'
       obtain ⟨n30, f3⟩ := upd_none e3''
       have key := z3 b0 b1 b2 b3 (Ne.symm n10) (Ne.symm n20) (Ne.symm n21) n30 n31 n32
       clear z3
       first
         | exact fin b0 b1 b2 b3 _ ⟨e0, f1, f2, f3⟩ ⟨Ne.symm n10, Ne.symm n20, Ne.symm n21, n30, n31, n32⟩ (key _ _ _ _).1 (key _ _ _ _).2.1 (key _ _ _ _).2.2.1 (key _ _ _ _).2.2.2.1 (fun c q1 q2 q3 q4 => (key _ _ _ _).2.2.2.2 c q1 q2 q3 q4)
         | exact fin b0 b2 b1 b3 _ ⟨e0, f2, f1, f3⟩ ⟨Ne.symm n20, Ne.symm n10, n21, n30, n32, n31⟩ (key _ _ _ _).1 (key _ _ _ _).2.2.1 (key _ _ _ _).2.1 (key _ _ _ _).2.2.2.1 (fun c q1 q2 q3 q4 => (key _ _ _ _).2.2.2.2 c q1 q3 q2 q4)
         | exact fin b1 b0 b2 b3 _ ⟨f1, e0, f2, f3⟩ ⟨n10, Ne.symm n21, Ne.symm n20, n31, n30, n32⟩ (key _ _ _ _).2.1 (key _ _ _ _).1 (key _ _ _ _).2.2.1 (key _ _ _ _).2.2.2.1 (fun c q1 q2 q3 q4 => (key _ _ _ _).2.2.2.2 c q2 q1 q3 q4)
         | exact fin b2 b0 b1 b3 _ ⟨f2, e0, f1, f3⟩ ⟨n20, n21, Ne.symm n10, n32, n30, n31⟩ (key _ _ _ _).2.2.1 (key _ _ _ _).1 (key _ _ _ _).2.1 (key _ _ _ _).2.2.2.1 (fun c q1 q2 q3 q4 => (key _ _ _ _).2.2.2.2 c q2 q3 q1 q4)
         | exact fin b1 b2 b0 b3 _ ⟨f1, f2, e0, f3⟩ ⟨Ne.symm n21, n10, n20, n31, n32, n30⟩ (key _ _ _ _).2.1 (key _ _ _ _).2.2.1 (key _ _ _ _).1 (key _ _ _ _).2.2.2.1 (fun c q1 q2 q3 q4 => (key _ _ _ _).2.2.2.2 c q3 q1 q2 q4)
         | exact fin b2 b1 b0 b3 _ ⟨f2, f1, e0, f3⟩ ⟨n21, n20, n10, n32, n31, n30⟩ (key _ _ _ _).2.2.1 (key _ _ _ _).2.1 (key _ _ _ _).1 (key _ _ _ _).2.2.2.1 (fun c q1 q2 q3 q4 => (key _ _ _ _).2.2.2.2 c q3 q2 q1 q4))
end
end Go.Ab
end
section
/- The machine: what it is, and where it lies. -/
set_option linter.unusedSimpArgs false
set_option linter.unusedVariables false
set_option maxRecDepth 10000
namespace Go.Ab
open Go.Proofs
/-- The registers that are kept, and offsets of those that count. -/
structure IFile where
  k : Kp
  cyc : BitVec 64
  ins : BitVec 64
  deriving DecidableEq
def IFile.cells (f : IFile) : List AV := wds f.k.l ++ [.int .u64 (f.cyc.toNat : Int), .int .u64 (f.ins.toNat : Int)]
/-- A timer. -/
structure ITim where
  off : BitVec 64
  mark : BitVec 64
  soft : Bool
  deriving DecidableEq
def ITim.cells (t : ITim) : List AV := [.int .u64 (t.off.toNat : Int), .int .u64 (t.mark.toNat : Int), .bool t.soft]
def ITim.now (t : ITim) (tick : BitVec 64) : BitVec 64 := tick + t.off
def ITim.up (t : ITim) (tick : BitVec 64) : Bool := decide (t.mark.toNat ≤ (t.now tick).toNat)
/-- An arrival. -/
structure IArr where
  tick : BitVec 64
  byte : BitVec 8
  deriving DecidableEq
def IArr.cells (a : IArr) : List AV := [.int .u64 (a.tick.toNat : Int), .int .u8 (a.byte.toNat : Int)]
def IArr.zero : IArr := ⟨0, 0⟩
@[push_cast] theorem IArr.len (a : IArr) : a.cells.length = 2 := rfl
def arrC (l : List IArr) : List AV := l.flatMap IArr.cells
abbrev arrs (l : List IArr) : AV := .ro (arrC l) l.length
theorem arrC_len (l : List IArr) : (arrC l).length = l.length * 2 := by
  induction l with
  | nil => rfl
  | cons x r ih => simp only [arrC, List.flatMap_cons, List.length_append, List.length_cons] at ih ⊢; rw [ih, IArr.len]; omega
section
variable (l : List IArr) (k : Nat)
@[push_cast] theorem arr_0 : (arrC l)[k * 2]? = if k < l.length then some (.int .u64 ((l.getD k IArr.zero).tick.toNat : Int)) else none := by rw [← Nat.add_zero (k * 2), arrC, flat_getD _ _ _ IArr.zero IArr.len _ _ (by omega)]; rfl
@[push_cast] theorem arr_1 : (arrC l)[k * 2 + 1]? = if k < l.length then some (.int .u8 ((l.getD k IArr.zero).byte.toNat : Int)) else none := by rw [arrC, flat_getD _ _ _ IArr.zero IArr.len _ _ (by omega)]; rfl
end
/-- A console: what is to come, how many came, what waits, was one lost, what went out. -/
structure ICon where
  l : List IArr
  came : Nat
  rx : List (BitVec 8)
  over : Bool
  out : List (BitVec 8)
  deriving DecidableEq
def ICon.cells (c : ICon) : List AV := [arrs c.l, .int .i64 (c.came : Int), byt c.rx, .bool c.over, byt c.out]
/-- A bus, as the document has it. -/
structure IBus where
  b : List (BitVec 8)
  c : ICon
  t : ITim
  off : Bool
  code : BitVec 32
  deriving DecidableEq
def IBus.cells (b : IBus) : List AV := byt b.b :: (b.c.cells ++ b.t.cells ++ [.bool b.off, .int .u32 (b.code.toNat : Int)])
/-- A machine. -/
structure ICpu where
  pc : BitVec 32
  regs : Rg
  f : IFile
  tick : BitVec 64
  ret : BitVec 64
  bus : IBus
  ev : List Evt
  deriving DecidableEq
def ICpu.cells (c : ICpu) : List AV := .int .u32 (c.pc.toNat : Int) :: (wds c.regs.toList ++ (c.f.cells ++ (.int .u64 (c.tick.toNat : Int) :: .int .u64 (c.ret.toNat : Int) :: (c.bus.cells ++ [evts c.ev]))))
/-- What a machine begins with: a part of an image; all. -/
structure IPart where
  at_ : BitVec 32
  b : List (BitVec 8)
  deriving DecidableEq
def IPart.cells (p : IPart) : List AV := [.int .u32 (p.at_.toNat : Int), byt p.b]
def IPart.zero : IPart := ⟨0, []⟩
@[push_cast] theorem IPart.len (a : IPart) : a.cells.length = 2 := rfl
def partC (l : List IPart) : List AV := l.flatMap IPart.cells
theorem partC_len (l : List IPart) : (partC l).length = l.length * 2 := by
  induction l with
  | nil => rfl
  | cons x r ih => simp only [partC, List.flatMap_cons, List.length_append, List.length_cons] at ih ⊢; rw [ih, IPart.len]; omega
section
variable (l : List IPart) (k : Nat)
@[push_cast] theorem part_0 : (partC l)[k * 2]? = if k < l.length then some (.int .u32 ((l.getD k IPart.zero).at_.toNat : Int)) else none := by rw [← Nat.add_zero (k * 2), partC, flat_getD _ _ _ IPart.zero IPart.len _ _ (by omega)]; rfl
@[push_cast] theorem part_1 : (partC l)[k * 2 + 1]? = if k < l.length then some (byt (l.getD k IPart.zero).b) else none := by rw [partC, flat_getD _ _ _ IPart.zero IPart.len _ _ (by omega)]; rfl
@[push_cast] theorem part_p : partOf (partC l) (k * 2) (some 2) = if k < l.length then some (.agg (l.getD k IPart.zero).cells) else none := flat_partD _ _ _ IPart.zero IPart.len (by omega) _
end
structure ISt where
  size : Int
  parts : List IPart
  input : List IArr
  pc : BitVec 32
  regs : Rg
  k : Kp
  cyc : BitVec 64
  ins : BitVec 64
  t : ITim
  tick : BitVec 64
  ret : BitVec 64
def ISt.cells (s : ISt) : List AV := .int .i64 s.size :: .ro (partC s.parts) s.parts.length :: arrs s.input :: .int .u32 (s.pc.toNat : Int) :: (wds s.regs.toList ++ (wds s.k.l ++ (.int .u64 (s.cyc.toNat : Int) :: .int .u64 (s.ins.toNat : Int) :: (s.t.cells ++ [.int .u64 (s.tick.toNat : Int), .int .u64 (s.ret.toNat : Int)]))))
/-- The program's rows: where one lies. -/
def RowAt (sz : Nat) (H : Heap) (v : AV) (cells : List AV) (n : Nat) : Option Nat → Prop
  | none => v = .nils ∧ cells = [] ∧ n = 0
  | some b => ∃ pre cap sp, v = .sl b (List.length pre) n cap ∧ H b = some ⟨pre ++ cells, sp⟩ ∧ cells.length = n * sz ∧ cap * sz ≤ n * sz + sp
/-- Bytes that wait, in a ring. -/
def ringN (b : List (BitVec 8)) (first n : Nat) : List (BitVec 8) := (List.range n).map fun i => b.getD ((first + i) % 16) 0#8
def FifoAt (H : Heap) (p : Nat) (rx : List (BitVec 8)) : Prop := ∃ (b : List (BitVec 8)) (first n : Nat), H p = some ⟨bys b ++ [.int .i64 (first : Int), .int .i64 (n : Int)], 0⟩ ∧ b.length = 16 ∧ first < 16 ∧ n ≤ 16 ∧ rx = ringN b first n
/-- Where a machine lies. -/
structure Plc where
  p : Nat
  bus : Nat
  con : Nat
  fifo : Nat
  tim : Nat
  ram : Pl
  ob : Option Nat
  eb : Option Nat
def Plc.l (l : Plc) : List Nat := [l.p, l.bus, l.con, l.fifo, l.tim, l.ram.p, l.ram.b, l.ram.w, l.ram.g] ++ l.ob.toList ++ l.eb.toList
def Plc.has (l : Plc) (d : Nat) : Prop := d ∈ l.l
def cpuC (c : ICpu) (bus : Nat) (v : AV) : List AV := .int .u32 (c.pc.toNat : Int) :: (wds c.regs.toList ++ (c.f.cells ++ [.int .u64 (c.tick.toNat : Int), .int .u64 (c.ret.toNat : Int), .ptr bus 0, v]))
structure MachAt (H : Heap) (l : Plc) (c : ICpu) (M : IRam) : Prop where
  nd : l.l.Nodup
  hc : ∃ v, H l.p = some ⟨cpuC c l.bus v, 0⟩ ∧ RowAt 45 H v (c.ev.flatMap Evt.cells) c.ev.length l.eb
  hb : H l.bus = some ⟨[.ptr l.ram.p 0, .ptr l.con 0, .ptr l.tim 0, .bool c.bus.off, .int .u32 (c.bus.code.toNat : Int)], 0⟩
  hn : ∃ v, H l.con = some ⟨[arrs c.bus.c.l, .int .i64 (c.bus.c.came : Int), .ptr l.fifo 0, .bool c.bus.c.over, v], 0⟩ ∧ RowAt 1 H v (bys c.bus.c.out) c.bus.c.out.length l.ob
  hf : FifoAt H l.fifo c.bus.c.rx
  ht : H l.tim = some ⟨c.bus.t.cells, 0⟩
  hr : RamAt H l.ram M
  hm : M.b = c.bus.b
  hl : c.bus.c.l.length ≤ 256
  came : c.bus.c.came ≤ c.bus.c.l.length
end Go.Ab
end
section
/- Bytes that wait. -/
set_option linter.unusedSimpArgs false
set_option linter.unusedVariables false
set_option maxRecDepth 10000
namespace Go.Ab
open Go.Proofs
variable {G : Glo} {h : Heap}
theorem ring_len (b : List (BitVec 8)) (first n : Nat) : (ringN b first n).length = n := by simp [ringN]
theorem ring_get (b : List (BitVec 8)) (first n k : Nat) (hk : k < n) : (ringN b first n).getD k 0#8 = b.getD ((first + k) % 16) 0#8 := by simp [ringN, hk]
theorem fifo_at (b : List (BitVec 8)) (x y : AV) (hb : b.length = 16) : (bys b ++ [x, y]).length = 18 ∧ (bys b ++ [x, y])[16]? = some x ∧ (bys b ++ [x, y])[17]? = some y ∧ ∀ k, k < 16 → (bys b ++ [x, y])[k]? = some (.int .u8 ((b.getD k 0#8).toNat : Int)) := by
  have hl : (bys b).length = 16 := by simp [bys, hb]
  refine ⟨by simp [hl], ?_, ?_, fun k hk => ?_⟩
  · rw [List.getElem?_append_right (by omega), hl]; rfl
  · rw [List.getElem?_append_right (by omega), hl]; rfl
  · rw [List.getElem?_append_left (by omega), bys_get, if_pos (by omega)]
theorem FifoAt.len {H : Heap} {p : Nat} {rx : List (BitVec 8)} (hf : FifoAt H p rx) : rx.length ≤ 16 := by
  obtain ⟨b, first, n, _, _, _, h4, rfl⟩ := hf
  rw [ring_len]; exact h4
theorem fLen_spec {H : Heap} {p : Nat} {rx : List (BitVec 8)} (hf : FifoAt H p rx) : Spec Tryz.prog G 110 [.ptr p 0] H (Is (.int .i64 (rx.length : Nat)) H) := by
  obtain ⟨b, first, n, hp, hb, hfi, hn, rfl⟩ := hf
  obtain ⟨l18, c16, c17, _⟩ := fifo_at b (.int .i64 (first : Int)) (.int .i64 (n : Int)) hb
  rw [ring_len]
  generalize bys b ++ [.int .i64 (first : Int), .int .i64 (n : Int)] = cells at *
  refine Spec.is C110ok rfl ?_
  simp only [push_cast, simprocAttr, hp, c17]
theorem rg_upd {H g : Heap} {sz n : Nat} {v : AV} {cells : List AV} {l : Nat} {X Y : Blk} (ho : Own sz (upd g l X) v cells n H) : Own sz (upd g l Y) v cells n (upd H l Y) := by
  have := Own.upd ho (b := l) (x := Y) (.inr ⟨_, upd_same _ _ _⟩)
  rwa [upd_upd] at this
theorem own_era {H g : Heap} {sz n : Nat} {v : AV} {cells : List AV} {l : Nat} {X : Blk} (ho : Own sz (upd g l X) v cells n H) (hg : g l = none) : Own sz g v cells n (era H l) := by
  cases ho with
  | nil =>
    have : era (upd g l X) l = g := by
      funext c; simp only [era, upd]; split
      · rename_i e; rw [e, hg]
      · rfl
    rw [this]; exact .nil
  | row b n cap pre cells sp hb hl hc =>
    obtain ⟨hne, hgb⟩ := upd_none hb
    have : era (upd (upd g l X) b ⟨pre ++ cells, sp⟩) l = upd g b ⟨pre ++ cells, sp⟩ := by
      funext c; simp only [era, upd]
      by_cases e : c = l
      · subst e; rw [if_pos rfl, if_neg (Ne.symm hne), hg]
      · rw [if_neg e, if_neg e]
    rw [this]
    exact .row b n cap pre cells sp hgb hl hc
end Go.Ab
end
