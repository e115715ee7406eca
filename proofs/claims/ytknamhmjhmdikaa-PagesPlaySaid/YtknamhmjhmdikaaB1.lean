/- Blocks: what they are, and when they are right, over numbers and lists alone. -/
import Derived.Test.YtknamhmjhmdikaaWd
set_option linter.unusedSimpArgs false
set_option linter.unusedVariables false
namespace Go.Ab
@[push_cast] theorem bindG_ite {c : Prop} [Decidable c] {v : AV} {K : AV → Prop} : bindG true (if c then some v else none) K = (c ∧ K v) := by
  by_cases hc : c <;> simp [bindG, hc]
attribute [push_cast] Bool.not_eq_true' Bool.not_eq_false'
structure IOp where
  code : Int
  a : Int
  b : Int
  imm : BitVec 32
  x : Int
  y : Int
  deriving DecidableEq
def IOp.zero : IOp := ⟨0, 0, 0, 0, 0, 0⟩
def IOp.cells (o : IOp) : List AV := [.int .i64 o.code, .int .i64 o.a, .int .i64 o.b, .int .u32 (o.imm.toNat : Int), .int .i64 o.x, .int .i64 o.y]
structure IVl where
  reg : Int
  val : Int
  deriving DecidableEq
def IVl.zero : IVl := ⟨0, 0⟩
def IVl.cells (v : IVl) : List AV := [.int .i64 v.reg, .int .i64 v.val]
abbrev vls (l : List IVl) : AV := .ro (l.flatMap IVl.cells) l.length
structure IEx where
  done : Int
  pc : BitVec 32
  to : Int
  why : Int
  map : List IVl
  deriving DecidableEq
def IEx.zero : IEx := ⟨0, 0, 0, 0, []⟩
def IEx.cells (e : IEx) : List AV := [.int .i64 e.done, .int .u32 (e.pc.toNat : Int), .int .i64 e.to, .int .i64 e.why, vls e.map]
abbrev ops (l : List IOp) : AV := .ro (l.flatMap IOp.cells) l.length
abbrev exs (l : List IEx) : AV := .ro (l.flatMap IEx.cells) l.length
structure IBk where
  pcs : List (BitVec 32)
  ops : List IOp
  exits : List IEx
  last : Int
  deriving DecidableEq
def IBk.cells (b : IBk) : List AV := [.ro (wds b.pcs) b.pcs.length, Ab.ops b.ops, exs b.exits, .int .i64 b.last]
abbrev bkP (b : IBk) : AV := .cp b.cells 0
@[push_cast] theorem IOp.len (o : IOp) : o.cells.length = 6 := rfl
@[push_cast] theorem IVl.len (v : IVl) : v.cells.length = 2 := rfl
@[push_cast] theorem IEx.len (e : IEx) : e.cells.length = 5 := rfl
@[push_cast] theorem IBk.len (b : IBk) : b.cells.length = 4 := rfl
section
variable (o : IOp) (v : IVl) (e : IEx) (b : IBk)
@[push_cast] theorem IOp.c0 : o.cells[0]? = some (.int .i64 o.code) := rfl
@[push_cast] theorem IOp.c1 : o.cells[1]? = some (.int .i64 o.a) := rfl
@[push_cast] theorem IOp.c2 : o.cells[2]? = some (.int .i64 o.b) := rfl
@[push_cast] theorem IOp.c3 : o.cells[3]? = some (.int .u32 (o.imm.toNat : Int)) := rfl
@[push_cast] theorem IOp.c4 : o.cells[4]? = some (.int .i64 o.x) := rfl
@[push_cast] theorem IOp.c5 : o.cells[5]? = some (.int .i64 o.y) := rfl
@[push_cast] theorem IOp.s1 (x : Int) : o.cells.set 1 (.int .i64 x) = IOp.cells { o with a := x } := rfl
@[push_cast] theorem IOp.s2 (x : Int) : o.cells.set 2 (.int .i64 x) = IOp.cells { o with b := x } := rfl
@[push_cast] theorem IOp.s4 (x : Int) : o.cells.set 4 (.int .i64 x) = IOp.cells { o with x := x } := rfl
@[push_cast] theorem IOp.s5 (x : Int) : o.cells.set 5 (.int .i64 x) = IOp.cells { o with y := x } := rfl
@[push_cast] theorem IVl.c0 : v.cells[0]? = some (.int .i64 v.reg) := rfl
@[push_cast] theorem IVl.c1 : v.cells[1]? = some (.int .i64 v.val) := rfl
@[push_cast] theorem IEx.c0 : e.cells[0]? = some (.int .i64 e.done) := rfl
@[push_cast] theorem IEx.c1 : e.cells[1]? = some (.int .u32 (e.pc.toNat : Int)) := rfl
@[push_cast] theorem IEx.c2 : e.cells[2]? = some (.int .i64 e.to) := rfl
@[push_cast] theorem IEx.c3 : e.cells[3]? = some (.int .i64 e.why) := rfl
@[push_cast] theorem IEx.c4 : e.cells[4]? = some (vls e.map) := rfl
@[push_cast] theorem IBk.c0 : b.cells[0]? = some (.ro (wds b.pcs) b.pcs.length) := rfl
@[push_cast] theorem IBk.c1 : b.cells[1]? = some (Ab.ops b.ops) := rfl
@[push_cast] theorem IBk.c2 : b.cells[2]? = some (exs b.exits) := rfl
@[push_cast] theorem IBk.c3 : b.cells[3]? = some (.int .i64 b.last) := rfl
@[push_cast] theorem IOp.sp (a b c d e f : AV) : splice [a, b, c, d, e, f] 0 o.cells = o.cells := rfl
@[push_cast] theorem IVl.sp (a b : AV) : splice [a, b] 0 v.cells = v.cells := rfl
@[push_cast] theorem IEx.sp (a b c d f : AV) : splice [a, b, c, d, f] 0 e.cells = e.cells := rfl
@[push_cast] theorem IBk.sp (a c d f : AV) : splice [a, c, d, f] 0 b.cells = b.cells := rfl
theorem IOp.zero_eq : [AV.int .i64 0, .int .i64 0, .int .i64 0, .int .u32 0, .int .i64 0, .int .i64 0] = IOp.zero.cells := rfl
@[push_cast] theorem IOp.pall : partOf o.cells 0 (some 6) = some (.agg o.cells) := rfl
@[push_cast] theorem IVl.pall : partOf v.cells 0 (some 2) = some (.agg v.cells) := rfl
@[push_cast] theorem IEx.pall : partOf e.cells 0 (some 5) = some (.agg e.cells) := rfl
@[push_cast] theorem IBk.pall : partOf b.cells 0 (some 4) = some (.agg b.cells) := rfl
end
theorem flat_getD {α : Type} (f : α → List AV) (n : Nat) (l : List α) (d : α) (hf : ∀ x, (f x).length = n) (k j : Nat) (hj : j < n) : (l.flatMap f)[k * n + j]? = if k < l.length then (f (l.getD k d))[j]? else none := by
  split
  · rename_i hk
    have h1 := flat_drop f n l (fun x _ => hf x) k (by omega)
    rw [List.drop_eq_getElem_cons hk, List.flatMap_cons] at h1
    rw [← List.getElem?_drop, h1, List.getElem?_append_left (by rw [hf]; exact hj)]
    simp [hk]
  · rename_i hk
    refine List.getElem?_eq_none ?_
    rw [flat_len f n l fun x _ => hf x]
    have := Nat.mul_le_mul_right n (Nat.not_lt.1 hk)
    omega
theorem flat_partD {α : Type} (f : α → List AV) (n : Nat) (l : List α) (d : α) (hf : ∀ x, (f x).length = n) (hn : 0 < n) (k : Nat) : partOf (l.flatMap f) (k * n) (some n) = if k < l.length then some (.agg (f (l.getD k d))) else none := by
  split
  · rename_i hk
    rw [flat_part f n l (fun x _ => hf x) k hk]
    simp [hk]
  · rename_i hk
    rw [partOf_some, if_neg]
    rw [flat_len f n l fun x _ => hf x]
    have := Nat.mul_le_mul_right n (Nat.not_lt.1 hk)
    omega
section
variable (l : List IOp) (m : List IVl) (es : List IEx) (k : Nat)
@[push_cast] theorem ops_0 : (l.flatMap IOp.cells)[k * 6]? = if k < l.length then some (.int .i64 (l.getD k IOp.zero).code) else none := by rw [← Nat.add_zero (k * 6), flat_getD _ _ _ IOp.zero IOp.len _ _ (by omega)]; rfl
@[push_cast] theorem ops_1 : (l.flatMap IOp.cells)[k * 6 + 1]? = if k < l.length then some (.int .i64 (l.getD k IOp.zero).a) else none := by rw [flat_getD _ _ _ IOp.zero IOp.len _ _ (by omega)]; rfl
@[push_cast] theorem ops_2 : (l.flatMap IOp.cells)[k * 6 + 2]? = if k < l.length then some (.int .i64 (l.getD k IOp.zero).b) else none := by rw [flat_getD _ _ _ IOp.zero IOp.len _ _ (by omega)]; rfl
@[push_cast] theorem ops_3 : (l.flatMap IOp.cells)[k * 6 + 3]? = if k < l.length then some (.int .u32 ((l.getD k IOp.zero).imm.toNat : Int)) else none := by rw [flat_getD _ _ _ IOp.zero IOp.len _ _ (by omega)]; rfl
@[push_cast] theorem ops_4 : (l.flatMap IOp.cells)[k * 6 + 4]? = if k < l.length then some (.int .i64 (l.getD k IOp.zero).x) else none := by rw [flat_getD _ _ _ IOp.zero IOp.len _ _ (by omega)]; rfl
@[push_cast] theorem ops_5 : (l.flatMap IOp.cells)[k * 6 + 5]? = if k < l.length then some (.int .i64 (l.getD k IOp.zero).y) else none := by rw [flat_getD _ _ _ IOp.zero IOp.len _ _ (by omega)]; rfl
@[push_cast] theorem ops_p : partOf (l.flatMap IOp.cells) (k * 6) (some 6) = if k < l.length then some (.agg (l.getD k IOp.zero).cells) else none := flat_partD _ _ _ IOp.zero IOp.len (by omega) _
@[push_cast] theorem vls_0 : (m.flatMap IVl.cells)[k * 2]? = if k < m.length then some (.int .i64 (m.getD k IVl.zero).reg) else none := by rw [← Nat.add_zero (k * 2), flat_getD _ _ _ IVl.zero IVl.len _ _ (by omega)]; rfl
@[push_cast] theorem vls_1 : (m.flatMap IVl.cells)[k * 2 + 1]? = if k < m.length then some (.int .i64 (m.getD k IVl.zero).val) else none := by rw [flat_getD _ _ _ IVl.zero IVl.len _ _ (by omega)]; rfl
@[push_cast] theorem vls_p : partOf (m.flatMap IVl.cells) (k * 2) (some 2) = if k < m.length then some (.agg (m.getD k IVl.zero).cells) else none := flat_partD _ _ _ IVl.zero IVl.len (by omega) _
@[push_cast] theorem exs_4 : (es.flatMap IEx.cells)[k * 5 + 4]? = if k < es.length then some (vls (es.getD k IEx.zero).map) else none := by rw [flat_getD _ _ _ IEx.zero IEx.len _ _ (by omega)]; rfl
@[push_cast] theorem exs_p : partOf (es.flatMap IEx.cells) (k * 5) (some 5) = if k < es.length then some (.agg (es.getD k IEx.zero).cells) else none := flat_partD _ _ _ IEx.zero IEx.len (by omega) _
end
theorem le_sub {r r' : AV} {h1 h2 h' : Heap} (hs : Sub h1 h') (hl : Le r h1 r' h2) : Le r h' r' h2 := by
  intro w v hw hr
  obtain ⟨k1, k2⟩ := hrep_less hw hs
  obtain ⟨x, y, z⟩ := hl w v k1 (hr.keep k2.keeps)
  exact ⟨x, y, fun b hb => z b (hs.none hb)⟩
/-- All numbers below one. -/
def allN (n : Nat) (p : Nat → Bool) : Bool := (List.range n).all p
theorem allN_true {n : Nat} {p : Nat → Bool} (h : ∀ i, i < n → p i = true) : allN n p = true := by
  simp only [allN, List.all_eq_true, List.mem_range]; exact h
theorem allN_false {n : Nat} {p : Nat → Bool} (k : Nat) (hk : k < n) (h : p k = false) : allN n p = false := by
  rw [← Bool.not_eq_true]
  intro h2
  simp only [allN, List.all_eq_true, List.mem_range] at h2
  rw [h2 k hk] at h; cases h
theorem allN_get {n : Nat} {p : Nat → Bool} (h : allN n p = true) (k : Nat) (hk : k < n) : p k = true := by
  simp only [allN, List.all_eq_true, List.mem_range] at h; exact h k hk
def IBk.op (b : IBk) (k : Nat) : IOp := b.ops.getD k IOp.zero
def IBk.ex (b : IBk) (k : Nat) : IEx := b.exits.getD k IEx.zero
def IEx.vl (e : IEx) (k : Nat) : IVl := e.map.getD k IVl.zero
/-- Is it a value's number, ahead of an operation? -/
def IBk.val (b : IBk) (n ahead : Int) : Bool := decide (0 ≤ n) && decide (n < ahead) && decide (n < b.ops.length) && decide (1 ≤ (b.op n.toNat).code) && decide ((b.op n.toNat).code ≤ 4)
/-- Is it an exit's number, whose values are ahead of an operation? -/
def IBk.exit (b : IBk) (n ahead : Int) : Bool := decide (0 ≤ n) && decide (n < b.exits.length) && (decide ((b.ex n.toNat).to = -1) || b.val (b.ex n.toNat).to ahead) && allN (b.ex n.toNat).map.length fun i => b.val ((b.ex n.toNat).vl i).val ahead
def loadsN (n : Int) : Int := if n = 11 ∨ n = 14 then 1 else if n = 12 ∨ n = 15 then 2 else if n = 13 then 4 else 0
def storesN (n : Int) : Int := if n = 16 then 1 else if n = 17 then 2 else if n = 18 then 4 else 0
def reckonsN (n : Int) : Bool := decide (19 ≤ n) && decide (n ≤ 37) || decide (50 ≤ n) && decide (n ≤ 57)
def kindN (o : IOp) : Bool :=
  let n : Int := o.imm.toNat
  if o.code = 1 then decide (1 ≤ n) && decide (n ≤ 31) else if o.code = 2 then true else if o.code = 3 then reckonsN n else if o.code = 4 then decide (0 < loadsN n) else if o.code = 5 then decide (0 < storesN n) else if o.code = 6 then decide (5 ≤ n) && decide (n ≤ 10) else false
def IBk.opR (b : IBk) (k : Nat) : Bool :=
  let o := b.op k
  let n : Int := o.imm.toNat
  if o.code = 1 then decide (1 ≤ n) && decide (n ≤ 31) && decide (o.x = 0) && decide (o.y = 0) && decide (o.a = 0) && decide (o.b = 0)
  else if o.code = 2 then decide (o.x = 0) && decide (o.y = 0) && decide (o.a = 0) && decide (o.b = 0)
  else if o.code = 3 then reckonsN n && decide (o.x = 0) && decide (o.y = 0) && b.val o.a k && b.val o.b k
  else if o.code = 4 then decide (0 < loadsN n) && decide (o.y = 0) && decide (o.b = 0) && b.val o.a k && b.exit o.x k
  else if o.code = 5 then decide (0 < storesN n) && b.val o.a k && b.val o.b k && b.exit o.x k && b.exit o.y k
  else if o.code = 6 then decide (5 ≤ n) && decide (n ≤ 10) && decide (o.y = 0) && b.val o.a k && b.val o.b k && b.exit o.x k
  else false
def IBk.leaves (b : IBk) (n : Nat) : Bool :=
  let e := b.ex n
  b.exit n b.ops.length && decide (0 ≤ e.done) && decide (e.done ≤ b.pcs.length) && decide (e.pc.toNat % 4 = 0) && decide (1 ≤ e.why) && decide (e.why ≤ 4) &&
    allN e.map.length fun i => decide (1 ≤ (e.vl i).reg) && decide ((e.vl i).reg ≤ 31) && (decide (i = 0) || decide ((e.vl (i - 1)).reg < (e.vl i).reg))
def pcR (l : List (BitVec 32)) (i : Nat) : Bool := decide ((l.getD i 0#32).toNat % 4 = 0)
def IBk.right (b : IBk) : Bool := allN b.ops.length b.opR && allN b.exits.length b.leaves && allN b.pcs.length (pcR b.pcs) && decide (0 < b.pcs.length) && b.exit b.last b.ops.length
def IBk.long (b : IBk) : Bool := decide (32 < b.pcs.length) || decide (512 < b.ops.length) || decide (128 < b.exits.length)
def IBk.check (b : IBk) : Int := if b.long then 3 else if b.right then 0 else 1
end Go.Ab
