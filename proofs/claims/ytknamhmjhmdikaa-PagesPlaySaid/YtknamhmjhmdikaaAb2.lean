/- A frame for walks over what values stand for, part Ab2. -/
import Derived.Test.YtknamhmjhmdikaaAb1
namespace Go.Ab
/-! The operations, with all that the types tell written out, and what they do to what is known. -/
abbrev Env := List (Nat × AV)
def lk : Env → Nat → AV
  | [], _ => .any
  | (j, v) :: r, i => bif i == j then v else lk r i
def put (d : Option Nat) (v : AV) (ρ : Env) : Env := match d with
  | some i => (i, v) :: ρ
  | none => ρ
/-- A constant, as data. -/
def ofV1 : Value → AV
  | .int k n => .int k n
  | .bool b => .bool b
  | .string s => .str s
  | .pointer none => .nilp
  | .slice none 0 0 => .nils
  | .nilFunc => .nilf
  | .map r => .mpp r
  | _ => .any
def ofV : Value → AV
  | .agg cs => if cs.toList.all Value.oneCell' then .agg (cs.toList.map ofV1) else .any
  | v => ofV1 v
def xv (G : Glo) (ρ : Env) : Operand → AV
  | .tmp t => lk ρ t
  | .const v => ofV v
  | .global g => G g
  | .func f => .fn f [] []

/-- The kinds of plain cells: truths, numbers, texts. -/
inductive CK where
  | b | i | s
  deriving DecidableEq, Inhabited
inductive RK where
  | mv (x : Operand)
  | pick (c a b : Operand)
  | bin (op : BinOp) (x y : Operand)
  | eqb (neg : Bool) (x y : Operand)
  | eqp (neg : Bool) (x y : Operand)
  | eqa (neg : Bool) (ks : List CK) (x y : Operand)
  | un (op : UnOp) (x : Operand)
  | conv (k : IntKind) (x : Operand)
  | bstr (x : Operand)
  | fad (off : Nat) (x : Operand)
  | fld (off : Nat) (n : Option Nat) (x : Operand)
  | ixs (sz : Nat) (x i : Operand)
  | ixa (n sz : Nat) (x i : Operand)
  | ixv (n sz : Nat) (m : Option Nat) (x i : Operand)
  | ixb (x i : Operand)
  | ld (n : Option Nat) (x : Operand)
  | nck (x : Operand)
  | ext (i : Nat) (x : Operand)
  | len (x : Operand)
  | lens (x : Operand)
  | mm (mx : Bool) (x y : Operand)
  | bld (zero : List AV) (parts : List (Nat × Nat × Operand))
  | mkf (f : Nat) (first caps : List Operand)
  | sls (sz : Nat) (x : Operand) (lo hi : Option Operand)
  | sla (n sz : Nat) (x : Operand) (lo hi : Option Operand)
  | slb (x : Operand) (lo hi : Option Operand)
  | sls3 (sz : Nat) (x : Operand) (lo : Option Operand) (hi mx : Operand)
  | lkp (k : IntKind) (z : AV) (ok : Bool) (x i : Operand)
  | lenm (x : Operand)
  | eqm (neg : Bool) (x : Operand)
  deriving Inhabited
inductive EK where
  | asg (x : Operand)
  | alc (zero : List AV)
  | box (x : Operand)
  | bsl (len : Nat) (cells : List AV) (parts : List (Nat × Nat × Operand))
  | bxr (x : Operand)
  | bsr (len : Nat) (cells : List AV) (parts : List (Nat × Nat × Operand))
  | st (n : Nat) (a v : Operand)
  | app (sz bytes : Nat) (x y : Operand)
  | call (f : Nat) (args : List Operand)
  | callv (x : Operand) (args : List Operand)
  | nilq (neg : Bool) (x : Operand)
  | mks (bytes : Nat) (z : List AV) (x y : Operand)
  | cpy (sz : Nat) (x y : Operand)
  | mkm
  | mup (k : IntKind) (x i v : Operand)
  | dlt (k : IntKind) (x i : Operand)
  deriving Inhabited
inductive K where
  | r (k : RK)
  | e (k : EK)
  deriving Inhabited
structure AOp where
  d : Option Nat
  g : Option (Nat × Bool)
  k : K
  deriving Inhabited
/-- The ways in which a region of open order may go: what only looks as early as may be; what acts, in turn, any that may be next. -/
inductive OT where
  | nil
  | r (i : Nat) (t : OT)
  | e (i : Nat) (fl : List Nat) (t alt : OT)
  deriving Inhabited
inductive ACode where
  | skip
  | ret
  | exit (id : Nat)
  | seq (keep : List Nat) (a b : ACode)
  | cond (c : Operand) (a b : ACode)
  | block (id : Nat) (a : ACode)
  | loop (a : ACode)
  | reg (ops : List AOp)
  | dreg (ops : List AOp) (edges : List (List Nat)) (order : List (Nat × List Nat))
  | dregt (ops : List AOp) (edges : List (List Nat)) (t : OT)
  | fz (s : Nat) (a : ACode)
  | wk (s : Nat) (a : ACode)
  | scp (a : ACode)
  | lab
  deriving Inhabited

/-- Two lists of plain cells, held against each other: none: they are not of the kinds that the type tells. -/
def cellsEq : List CK → List AV → List AV → Option Bool
  | [], [], [] => some true
  | .i :: ks, .int k a :: r, .int k' b :: s => if k = k' then (cellsEq ks r s).map fun t => (a == b) && t else none
  | .b :: ks, .bool a :: r, .bool b :: s => (cellsEq ks r s).map fun t => (a == b) && t
  | .s :: ks, .str a :: r, .str b :: s => (cellsEq ks r s).map fun t => (a == b) && t
  | _, _, _ => none

def abin (op : BinOp) : AV → AV → Option AV
  | .int k a, .int k' b =>
    match op with
    | .shl => if b < 0 then none else some (.int k (k.wrap (a * 2 ^ (min b.toNat k.bits))))
    | .shr => if b < 0 then none else some (.int k (a.fdiv (2 ^ (min b.toNat k.bits))))
    | .add => if k = k' then some (.int k (k.wrap (a + b))) else none
    | .sub => if k = k' then some (.int k (k.wrap (a - b))) else none
    | .mul => if k = k' then some (.int k (k.wrap (a * b))) else none
    | .quo => if k = k' then (if b = 0 then none else some (.int k (k.wrap (a.tdiv b)))) else none
    | .rem => if k = k' then (if b = 0 then none else some (.int k (a.tmod b))) else none
    | .and => if k = k' then some (.int k (k.wrap (BitVec.ofInt k.bits a &&& BitVec.ofInt k.bits b).toNat)) else none
    | .or => if k = k' then some (.int k (k.wrap (BitVec.ofInt k.bits a ||| BitVec.ofInt k.bits b).toNat)) else none
    | .xor => if k = k' then some (.int k (k.wrap (BitVec.ofInt k.bits a ^^^ BitVec.ofInt k.bits b).toNat)) else none
    | .andNot => if k = k' then some (.int k (k.wrap (BitVec.ofInt k.bits a &&& ~~~ BitVec.ofInt k.bits b).toNat)) else none
    | .eql => if k = k' then some (.bool (a == b)) else none
    | .neq => if k = k' then some (.bool (a != b)) else none
    | .lss => if k = k' then some (.bool (a < b)) else none
    | .leq => if k = k' then some (.bool (a ≤ b)) else none
    | .gtr => if k = k' then some (.bool (a > b)) else none
    | .geq => if k = k' then some (.bool (a ≥ b)) else none
  | .str a, .str b =>
    match op with
    | .add => if a.size + b.size ≤ 9223372036854775807 then some (.str (a ++ b)) else none
    | .eql => some (.bool (a.toList == b.toList))
    | .neq => some (.bool !(a.toList == b.toList))
    | .lss => some (.bool (Op.bytesLess a.toList b.toList))
    | _ => none
  | _, _ => none
def abeq (neg : Bool) : AV → AV → Option AV
  | .bool a, .bool b => some (.bool ((a == b) != neg))
  | _, _ => none
def peq (neg : Bool) : AV → AV → Option AV
  | .nilp, .nilp => some (.bool (!neg))
  | .ptr _ _, .nilp | .cp _ _, .nilp => some (.bool neg)
  | _, _ => none
def aeq (neg : Bool) (ks : List CK) : AV → AV → Option AV
  | .agg a, .agg b => (cellsEq ks a b).map fun t => .bool (t != neg)
  | _, _ => none
def aun (op : UnOp) : AV → Option AV
  | .int k n => match op with
    | .neg => some (.int k (k.wrap (0 - n)))
    | .xor => some (.int k (k.wrap (BitVec.ofInt k.bits (if k.signed then -1 else k.max) ^^^ BitVec.ofInt k.bits n).toNat))
    | _ => none
  | .bool b => match op with
    | .not => some (.bool !b)
    | _ => none
  | _ => none
/-- A value's cells. -/
def cellsOf : AV → Option (List AV)
  | .agg cs => some cs
  | .any | .tup _ => none
  | v => some [v]
def partOf (cells : List AV) (off : Nat) : Option Nat → Option AV
  | none => cells[off]?
  | some n => if off + n ≤ cells.length then some (.agg ((cells.drop off).take n)) else none
def ald (h : Heap) (n : Option Nat) : AV → Option AV
  | .ptr b o => match h b with
    | some x => partOf x.cells o n
    | none => none
  | .cp cells o => partOf cells o n
  | _ => none
def splice (cells : List AV) (off : Nat) (new : List AV) : List AV :=
  match new with
  | [v] => cells.set off v
  | _ => cells.take off ++ new ++ cells.drop (off + new.length)
def asto (h : Heap) (n : Nat) : AV → Option (List AV) → Option Heap
  | .ptr b o, some cs => match h b with
    | some x => if cs.length = n ∧ o + n ≤ x.cells.length then some (upd h b ⟨splice x.cells o cs, x.spare⟩) else none
    | none => none
  | _, _ => none
def afill (x : Operand → AV) (cells : List AV) : List (Nat × Nat × Operand) → Option (List AV)
  | [] => some cells
  | (off, n, o) :: r => match cellsOf (x o) with
    | some cs => if cs.length = n ∧ off + n ≤ cells.length then afill x (splice cells off cs) r else none
    | none => none
/-- A bound of a slice expression: its number, if it is right. -/
def abound (x : Operand → AV) (dflt most : Nat) : Option Operand → Option Nat
  | none => some dflt
  | some o => match x o with
    | .int _ i => if 0 ≤ i ∧ i ≤ (most : Int) then some i.toNat else none
    | _ => none
def aslice (sz l hh : Nat) : AV → Option AV
  | .sl b off _ cap => some (.sl b (off + l * sz) (hh - l) (cap - l))
  | .ro cells _ => some (.ro ((cells.drop (l * sz)).take ((hh - l) * sz)) (hh - l))
  | .nils => some .nils
  | _ => none
def alen : AV → Option Nat
  | .sl _ _ n _ => some n
  | .ro _ n => some n
  | .nils => some 0
  | _ => none
def acap : AV → Option Nat
  | .sl _ _ _ c => some c
  | .ro _ n => some n
  | .nils => some 0
  | _ => none
def aslice3 (sz l hh mm : Nat) : AV → Option AV
  | .sl b off _ _ => some (.sl b (off + l * sz) (hh - l) (mm - l))
  | .ro cells _ => some (.ro ((cells.drop (l * sz)).take ((hh - l) * sz)) (hh - l))
  | .nils => some .nils
  | _ => none
/-- So many elements that are all the same. -/
def mkCells (z : List AV) (n : Nat) : List AV := match z with
  | [v] => List.replicate n v
  | _ => (List.replicate n z).flatten
/-- What an append adds: how many elements, and their cells. -/
def addedBy (h : Heap) (sz : Nat) : AV → Option (Nat × List AV)
  | .nils => some (0, [])
  | .ro cells n => if cells.length = n * sz then some (n, cells) else none
  | .sl b o n _ => match h b with
    | some x => if o + n * sz ≤ x.cells.length then some (n, (x.cells.drop o).take (n * sz)) else none
    | none => none
  | .str s => if sz = 1 then some (s.size, s.data.toList.map fun c => .int .u8 c.toNat) else none
  | _ => none
def intsOf : List AV → Option (List Int)
  | [] => some []
  | .int .u8 n :: r => (intsOf r).map (n :: ·)
  | _ => none
/-- Bytes, as a text. -/
def strOf (ns : List Int) : ByteArray := ns.foldl (fun r n => r.push (UInt8.ofNat n.toNat)) ByteArray.empty
/-- A map's entries. -/
def mapK : Blk → Option (Array MapEntry × Nat)
  | ⟨[.raw (.map es c)], 0⟩ => some (es, c)
  | _ => none
def mapAt (h : Heap) : AV → Option (Array MapEntry × Nat)
  | .mpp none => some (#[], 0)
  | .mpp (some b) => (h b).bind mapK
  | _ => none
/-- A value that a map may hold. -/
def valM : AV → Option Value
  | .int k n => some (.int k n)
  | .bool b => some (.bool b)
  | .str s => some (.string s)
  | .mpp r => some (.map r)
  | _ => none
/-- What a look into a map gives. -/
def lkA (z : AV) (ok : Bool) (r : Option (Nat × Value)) : AV :=
  let v := match r with
    | some (_, v) => ofV1 v
    | none => z
  bif ok then .tup [v, .bool r.isSome] else v
def evR (G : Glo) (k : RK) (ρ : Env) (h : Heap) : Option AV :=
  match k with
  | .mv x => some (xv G ρ x)
  | .pick c a b => match xv G ρ c with
    | .bool t => some (bif t then xv G ρ a else xv G ρ b)
    | _ => none
  | .bin op x y => abin op (xv G ρ x) (xv G ρ y)
  | .eqb neg x y => abeq neg (xv G ρ x) (xv G ρ y)
  | .eqp neg x y => peq neg (xv G ρ x) (xv G ρ y)
  | .eqa neg ks x y => aeq neg ks (xv G ρ x) (xv G ρ y)
  | .un op x => aun op (xv G ρ x)
  | .conv k x => match xv G ρ x with
    | .int _ n => some (.int k (k.wrap n))
    | _ => none
  | .bstr x => match xv G ρ x with
    | .str _ => none
    | v => match addedBy h 1 v with
      | some (_, cells) => (intsOf cells).map fun ns => .str (strOf ns)
      | none => none
  | .fad off x => match xv G ρ x with
    | .ptr b o => some (.ptr b (o + off))
    | .cp cells o => some (.cp cells (o + off))
    | _ => none
  | .fld off n x => match xv G ρ x with
    | .agg cells => partOf cells off n
    | _ => none
  | .ixs sz x i => match xv G ρ x, xv G ρ i with
    | .sl b o len _, .int _ j => if 0 ≤ j ∧ j < (len : Int) then some (.ptr b (o + j.toNat * sz)) else none
    | .ro cells len, .int _ j => if 0 ≤ j ∧ j < (len : Int) then some (.cp cells (j.toNat * sz)) else none
    | _, _ => none
  | .ixa n sz x i => match xv G ρ x, xv G ρ i with
    | .ptr b o, .int _ j => if 0 ≤ j ∧ j < (n : Int) then some (.ptr b (o + j.toNat * sz)) else none
    | .cp cells o, .int _ j => if 0 ≤ j ∧ j < (n : Int) then some (.cp cells (o + j.toNat * sz)) else none
    | _, _ => none
  | .ixv n sz m x i => match xv G ρ x, xv G ρ i with
    | .agg cells, .int _ j => if 0 ≤ j ∧ j < (n : Int) then partOf cells (j.toNat * sz) m else none
    | _, _ => none
  | .ixb x i => match xv G ρ x, xv G ρ i with
    | .str s, .int _ j => if 0 ≤ j ∧ j < (s.size : Int) then some (.int .u8 (s.data.toList[j.toNat]?.getD 0).toNat) else none
    | _, _ => none
  | .ld n x => ald h n (xv G ρ x)
  | .nck x => match xv G ρ x with
    | .ptr b o => some (.ptr b o)
    | .cp cells o => some (.cp cells o)
    | _ => none
  | .ext i x => match xv G ρ x with
    | .tup vs => vs[i]?
    | _ => none
  | .len x => (alen (xv G ρ x)).map fun (n : Nat) => AV.int .i64 (n : Int)
  | .lens x => match xv G ρ x with
    | .str s => some (.int .i64 s.size)
    | _ => none
  | .mm mx x y => match xv G ρ x, xv G ρ y with
    | .int k a, .int _ b => some (.int k (bif mx then (if b > a then b else a) else (if b < a then b else a)))
    | _, _ => none
  | .bld zero parts => (afill (xv G ρ) zero parts).map .agg
  | .mkf f first caps => some (.fn f (first.map (xv G ρ)) (caps.map (xv G ρ)))
  | .sls sz x lo hi => match alen (xv G ρ x) with
    | some n => match abound (xv G ρ) n n hi with
      | some hh => match abound (xv G ρ) 0 hh lo with
        | some l => aslice sz l hh (xv G ρ x)
        | none => none
      | none => none
    | none => none
  | .sla n sz x lo hi => match abound (xv G ρ) n n hi with
    | some hh => match abound (xv G ρ) 0 hh lo with
      | some l => match xv G ρ x with
        | .ptr b o => some (.sl b (o + l * sz) (hh - l) (n - l))
        | .cp cells o => some (.ro ((cells.drop (o + l * sz)).take ((hh - l) * sz)) (hh - l))
        | _ => none
      | none => none
    | none => none
  | .slb x lo hi => match xv G ρ x with
    | .str s => match abound (xv G ρ) s.size s.size hi with
      | some hh => match abound (xv G ρ) 0 hh lo with
        | some l => some (.str (s.extract l hh))
        | none => none
      | none => none
    | _ => none
  | .sls3 sz x lo hi mx => match acap (xv G ρ x) with
    | some c => match abound (xv G ρ) 0 c (some mx) with
      | some mm => match abound (xv G ρ) 0 mm (some hi) with
        | some hh => match abound (xv G ρ) 0 hh lo with
          | some l => aslice3 sz l hh mm (xv G ρ x)
          | none => none
        | none => none
      | none => none
    | none => none
  | .lkp k z ok x i => match mapAt h (xv G ρ x), xv G ρ i with
    | some (es, _), .int k' n => (Instr.findNow (.int k) (.int k' n) es.toList 0).map (lkA z ok)
    | _, _ => none
  | .lenm x => (mapAt h (xv G ρ x)).map fun e => .int .i64 (e.1.size : Int)
  | .eqm neg x => match xv G ρ x with
    | .mpp r => some (.bool (r.isNone != neg))
    | _ => none
/-- Behind a map's entry having been put. -/
def mupQ (k : IntKind) (x i v : AV) (h : Heap) (Q : AV → Heap → Prop) : Prop :=
  match x, i, valM v with
  | .mpp (some b), .int k' n, some c => match (h b).bind mapK with
    | some (es, t) => match Instr.findNow (.int k) (.int k' n) es.toList 0 with
      | some (some (j, _)) => Q (.tup []) (upd h b ⟨[.raw (.map (es.modify j fun e => { e with key := .int k' n, val := c }) t)], 0⟩)
      | some none => Q (.tup []) (upd h b ⟨[.raw (.map (es.push { key := .int k' n, val := c, born := t }) (t + 1))], 0⟩)
      | none => False
    | _ => False
  | _, _, _ => False
/-- Behind a map's entry having been taken out. -/
def dltQ (k : IntKind) (x i : AV) (h : Heap) (Q : AV → Heap → Prop) : Prop :=
  match x, i with
  | .mpp none, .int _ _ => Q (.tup []) h
  | .mpp (some b), .int k' n => match (h b).bind mapK with
    | some (es, t) => match Instr.findNow (.int k) (.int k' n) es.toList 0 with
      | some (some (j, _)) => Q (.tup []) (upd h b ⟨[.raw (.map (es.eraseIdxIfInBounds j) t)], 0⟩)
      | some none => Q (.tup []) (upd h b ⟨[.raw (.map es t)], 0⟩)
      | none => False
    | _ => False
  | _, _ => False
/-- Behind a copy. -/
def cpyQ (sz m : Nat) (cs : List AV) (x : AV) (h : Heap) (Q : AV → Heap → Prop) : Prop :=
  match x with
  | .nils => Q (.int .i64 0) h
  | .sl b o n _ => match h b with
    | none => False
    | some k => o + n * sz ≤ k.cells.length ∧ Q (.int .i64 ((min m n : Nat) : Int)) (upd h b ⟨splice k.cells o (cs.take (min m n * sz)), k.spare⟩)
  | _ => False
def mksQ (bytes : Nat) (z : List AV) (x y : AV) (h : Heap) (Q : AV → Heap → Prop) : Prop :=
  match x, y with
  | .int _ l, .int _ c => 0 ≤ l ∧ l ≤ c ∧ c * bytes ≤ 140737488355328 ∧ c ≤ 9223372036854775807 ∧
      ∀ b, h b = none → Q (.sl b 0 l.toNat c.toNat) (upd h b ⟨mkCells z l.toNat, (c - l).toNat * z.length⟩)
  | _, _ => False
/-- Behind an append: the same row or a new one; whatever the capacity. -/
def appQ (sz bytes m : Nat) (cs : List AV) (x : AV) (h : Heap) (Q : AV → Heap → Prop) : Prop :=
  match x with
  | .nils => m * bytes ≤ 140737488355328 ∧ m ≤ 9223372036854775807 ∧ (m = 0 → Q .nils h) ∧
      (0 < m → ∀ b cap, h b = none → m ≤ cap → Q (.sl b 0 m cap) (upd h b ⟨cs, (cap - m) * sz⟩))
  | .sl b o n cap => match h b with
    | none => False
    | some x => o + n * sz = x.cells.length ∧ cap * sz ≤ n * sz + x.spare ∧ (n + m) * bytes ≤ 140737488355328 ∧ n + m ≤ 9223372036854775807 ∧
        ∀ b' pre cap' spare', (b' = b ∨ h b' = none) → cap' * sz ≤ (n + m) * sz + spare' →
          Q (.sl b' pre.length (n + m) cap') (upd (era h b) b' ⟨pre ++ x.cells.drop o ++ cs, spare'⟩)
  | _ => False
/-- Can a function be called by its number? -/
def callable (P : Program) (f : Nat) : Prop := ∃ fn, P.funcs[f]? = some fn ∧ fn.body.isSome ∧ (fn.name == "runtime.NumGoroutine") = false
def stE (P : Program) (G : Glo) (k : EK) (ρ : Env) (h : Heap) (Q : AV → Heap → Prop) : Prop :=
  match k with
  | .asg x => Q (xv G ρ x) h
  | .alc zero => ∀ b, h b = none → Q (.ptr b 0) (upd h b ⟨zero, 0⟩)
  | .box x => match cellsOf (xv G ρ x) with
    | some cs => ∀ b, h b = none → Q (.ptr b 0) (upd h b ⟨cs, 0⟩)
    | none => False
  | .bsl len cells parts => match afill (xv G ρ) cells parts with
    | some cs => ∀ b, h b = none → Q (.sl b 0 len len) (upd h b ⟨cs, 0⟩)
    | none => False
  | .bxr x => match cellsOf (xv G ρ x) with
    | some cs => Q (.cp cs 0) h
    | none => False
  | .bsr len cells parts => match afill (xv G ρ) cells parts with
    | some cs => (len = 0 → cs = []) ∧ Q (.ro cs len) h
    | none => False
  | .st n a v => match asto h n (xv G ρ a) (cellsOf (xv G ρ v)) with
    | some h' => Q (.tup []) h'
    | none => False
  | .app sz bytes x y => match addedBy h sz (xv G ρ y) with
    | none => False
    | some (m, cs) => appQ sz bytes m cs (xv G ρ x) h Q
  | .call f args => Spec P G f (args.map (xv G ρ)) h Q
  | .callv x args => match xv G ρ x with
    | .fn f first caps => callable P f ∧ Spec P G f (first ++ args.map (xv G ρ) ++ caps) h Q
    | .yl l => YOk P G ∧ G.y l (args.map (xv G ρ)) h Q
    | _ => False
  | .nilq neg x => match xv G ρ x with
    | .nils => Q (.bool (!neg)) h
    | .sl _ _ _ _ => Q (.bool neg) h
    | .ro _ n => (n = 0 → Q (.bool (!neg)) h) ∧ Q (.bool neg) h
    | _ => False
  | .mks bytes z x y => mksQ bytes z (xv G ρ x) (xv G ρ y) h Q
  | .cpy sz x y => match addedBy h sz (xv G ρ y) with
    | none => False
    | some (m, cs) => cpyQ sz m cs (xv G ρ x) h Q
  | .mkm => ∀ b, h b = none → Q (.mpp (some b)) (upd h b ⟨[.raw (.map #[] 0)], 0⟩)
  | .mup k x i v => mupQ k (xv G ρ x) (xv G ρ i) (xv G ρ v) h Q
  | .dlt k x i => dltQ k (xv G ρ x) (xv G ρ i) h Q
def stp (P : Program) (G : Glo) (k : K) (ρ : Env) (h : Heap) (Q : AV → Heap → Prop) : Prop :=
  match k with
  | .r k => match evR G k ρ h with
    | some v => Q v h
    | none => False
  | .e k => stE P G k ρ h Q
/-- Is the operation wanted? Where its guard was passed over it is not. -/
def gd (g : Option (Nat × Bool)) (ρ : Env) (yes no : Prop) : Prop :=
  match g with
  | none => yes
  | some (s, want) => match lk ρ s with
    | .bool b => (b = want → yes) ∧ (b ≠ want → no)
    | .tup _ => no
    | _ => False
def rwp (P : Program) (G : Glo) : List AOp → Env → Heap → (Env → Heap → Prop) → Prop
  | [], ρ, h, Q => Q ρ h
  | o :: rest, ρ, h, Q => gd o.g ρ (stp P G o.k ρ h fun v h' => rwp P G rest (put o.d v ρ) h' Q) (rwp P G rest (put o.d (.tup []) ρ) h Q)

/-! The translation: what the program's tables tell of an operation's types is written out. -/
def szOf (P : Program) (t : TypeId) : Option Nat := (P.info? t).map (·.size)
/-- How a value of a type is loaded: none: one cell. -/
def shapeOf (P : Program) (t : TypeId) : Option (Option Nat) :=
  match P.underlying t with
  | some (.struct _) | some (.array _ _) => (szOf P t).map some
  | some _ => some none
  | none => none
def zeroOf (P : Program) (t : TypeId) : Option (List AV) :=
  match (P.info? t).bind (·.zero) with
  | some z => if z.cells.toList.all Value.oneCell' then some (z.cells.toList.map ofV1) else none
  | none => none
def fieldOf (P : Program) (s : TypeId) (f : Nat) : Option Field :=
  match P.underlying s with
  | some (.struct fs) => fs[f]?
  | _ => none
def partsOf (P : Program) (t : TypeId) (parts : List (Nat × Operand)) : Option (List (Nat × Nat × Operand)) :=
  match P.underlying t with
  | some (.struct fs) => if fs.toList.all (fun f => (szOf P f.type).isSome) then parts.mapM fun (x : Nat × Operand) => do
    let f ← fs[x.1]?
    let n ← szOf P f.type
    some (f.offset, n, x.2) else none
  | some (.array _ e) => do
    let n ← szOf P e
    some (parts.map fun (i, x) => (i * n, n, x))
  | _ => none
def flatFields (P : Program) (rec : TypeId → Option (List CK)) : List CK → List Field → Option (List CK)
  | n, [] => some n
  | n, f :: r => match rec f.type with
    | some m => if f.name ≠ "_" ∧ f.offset = n.length ∧ szOf P f.type = some m.length then flatFields P rec (n ++ m) r else none
    | none => none
/-- The kind of the keys of a map whose keys are numbers, and its elements' type. -/
def mapOf (P : Program) (t : TypeId) : Option (IntKind × TypeId) :=
  match P.underlying t with
  | some (.map k e) => match P.underlying k with
    | some (.int i) => some (i, e)
    | _ => none
  | _ => none
/-- Is a type of plain cells alone (numbers, truths, texts)? Their kinds. -/
def flat (P : Program) : Nat → TypeId → Option (List CK)
  | 0, _ => none
  | d + 1, t => match P.underlying t with
    | some .bool => some [.b]
    | some (.int _) => some [.i]
    | some .string => some [.s]
    | some (.struct fs) => match flatFields P (flat P d) [] fs.toList with
      | some n => if szOf P t = some n.length ∧ P.stoodInHeld t = false then some n else none
      | none => none
    | some (.array n e) => match flat P d e with
      | some m => if szOf P e = some m.length ∧ szOf P t = some (n * m.length) then some ((List.replicate n m).flatten) else none
      | none => none
    | _ => none
def trBin (P : Program) (op : BinOp) (t : TypeId) (x y : Operand) : Option K :=
  match P.underlying t with
  | some (.int _) | some .string => some (.r (.bin op x y))
  | some .bool => match op with
    | .eql => some (.r (.eqb false x y))
    | .neq => some (.r (.eqb true x y))
    | _ => none
  | some (.pointer e) => if szOf P e = some 0 then none else match op with
    | .eql => some (.r (.eqp false x y))
    | .neq => some (.r (.eqp true x y))
    | _ => none
  | some (.slice _) => match y with
    | .const (.slice none 0 0) => match op with
      | .eql => some (.e (.nilq false x))
      | .neq => some (.e (.nilq true x))
      | _ => none
    | _ => none
  | some (.map _ _) => match y with
    | .const (.map none) => match op with
      | .eql => some (.r (.eqm false x))
      | .neq => some (.r (.eqm true x))
      | _ => none
    | _ => none
  | some (.struct _) | some (.array _ _) =>
    if P.eqGuardType P.depth t then none else if P.stoodInHeld t then none else
    match flat P 50 t, op with
    | some ks, .eql => some (.r (.eqa false ks x y))
    | some ks, .neq => some (.r (.eqa true ks x y))
    | _, _ => none
  | _ => none
def trBuiltin (P : Program) (b : Builtin) (args : Array Operand) (ts : Array TypeId) : Option K :=
  match b, args.toList, ts.toList with
  | .len, [x], [t] => match P.underlying t with
    | some .string => some (.r (.lens x))
    | some (.slice _) => some (.r (.len x))
    | some (.array n _) => some (.r (.mv (.const (.int .i64 n))))
    | some (.map _ _) => some (.r (.lenm x))
    | _ => none
  | .min, [x, y], _ => some (.r (.mm false x y))
  | .max, [x, y], _ => some (.r (.mm true x y))
  | .append, [x, y], [t, u] => match P.underlying t, P.underlying u with
    | some (.slice e), some (.slice _) | some (.slice e), some .string => match P.info? e with
      | some i => match i.zero with
        | some z => if z.cells.size = i.size ∧ 0 < i.size ∧ 0 < i.bytes then some (.e (.app i.size i.bytes x y)) else none
        | none => none
      | none => none
    | _, _ => none
  | .copy, [x, y], [t, _] => match P.underlying t with
    | some (.slice e) => match szOf P e with
      | some (n + 1) => some (.e (.cpy (n + 1) x y))
      | _ => none
    | _ => none
  | .delete, [x, i], t :: _ => (mapOf P t).map fun k => .e (.dlt k.1 x i)
  | _, _, _ => none
def trCall (P : Program) (c : Call) : Option K :=
  match c.callee with
  | .builtin b => trBuiltin P b c.args c.argTypes
  | .value (.func f) => match P.funcs[f]? with
    | some fn => if fn.body.isSome ∧ (fn.name == "runtime.NumGoroutine") = false then some (.e (.call f c.args.toList)) else none
    | none => none
  | .value x => some (.e (.callv x c.args.toList))
  | _ => none
def trK (P : Program) (op : Op) : Option K :=
  match op with
  | .move x => some (.r (.mv x))
  | .assign x => some (.e (.asg x))
  | .pick c a b => some (.r (.pick c a b))
  | .alloc t => (zeroOf P t).map fun z => .e (.alc z)
  | .box _ x => some (.e (.box x))
  | .build t parts => do
    let z ← zeroOf P t
    let ps ← partsOf P t parts.toList
    some (.r (.bld z ps))
  | .buildSlice t len parts => match P.underlying t with
    | some (.slice e) => do
      let z ← zeroOf P e
      let n ← szOf P e
      if 0 < n ∧ z.length = n ∧ len * n ≤ 4096 then some (.e (.bsl len ((List.range (len * n)).map fun i => z.getD (i % n) .any) (parts.toList.map fun (i, x) => (i * n, n, x)))) else none
    | _ => none
  | .load t x => (shapeOf P t).map fun n => .r (.ld n x)
  | .store t a v => (szOf P t).map fun n => .e (.st n a v)
  | .nilCheck x => some (.r (.nck x))
  | .binOp op t x y _ => trBin P op t x y
  | .unOp op _ x => some (.r (.un op x))
  | .convert src dst x => match P.underlying src, P.underlying dst with
    | some _, some (.int k) => some (.r (.conv k x))
    | some (.slice e), some .string => match P.underlying e with
      | some (.int .u8) => some (.r (.bstr x))
      | _ => none
    | _, _ => none
  | .makeFunc (.func f) first caps => some (.r (.mkf f first.toList caps.toList))
  | .slice t x lo hi none => match P.underlying t with
    | some (.array n e) => (szOf P e).map fun sz => .r (.sla n sz x lo hi)
    | some (.slice e) => (szOf P e).map fun sz => .r (.sls sz x lo hi)
    | some .string => some (.r (.slb x lo hi))
    | _ => none
  | .slice t x lo (some hi) (some mx) => match P.underlying t with
    | some (.slice e) => (szOf P e).map fun sz => .r (.sls3 sz x lo hi mx)
    | _ => none
  | .makeSlice t x y => match P.underlying t with
    | some (.slice e) => match P.info? e with
      | some i => match zeroOf P e with
        | some z => if z.length = i.size ∧ 0 < i.size ∧ 0 < i.bytes then some (.e (.mks i.bytes z x y)) else none
        | none => none
      | none => none
    | _ => none
  | .fieldAddr s x f => match fieldOf P s f with
    | some fd => match szOf P fd.type with
      | some (_ + 1) => some (.r (.fad fd.offset x))
      | _ => none
    | none => none
  | .field s x f => match fieldOf P s f with
    | some fd => (shapeOf P fd.type).map fun n => .r (.fld fd.offset n x)
    | none => none
  | .indexAddr t x i => match P.underlying t with
    | some (.array n e) => (szOf P e).map fun sz => .r (.ixa n sz x i)
    | some (.slice e) => (szOf P e).map fun sz => .r (.ixs sz x i)
    | _ => none
  | .index t x i => match P.underlying t with
    | some (.array n e) => do
      let sz ← szOf P e
      let m ← shapeOf P e
      some (.r (.ixv n sz m x i))
    | some .string => some (.r (.ixb x i))
    | _ => none
  | .extract t i => some (.r (.ext i t))
  | .call c => trCall P c
  | .makeMap t none => match P.underlying t with
    | some (.map _ _) => some (.e .mkm)
    | _ => none
  | .lookup t x i ok => match mapOf P t with
    | some (k, e) => ((P.info? e).bind (·.zero)).map fun z => .r (.lkp k (ofV1 z) ok x i)
    | none => none
  | .mapUpdate t m i v | .insert t m i v => (mapOf P t).map fun k => .e (.mup k.1 m i v)
  | _ => none
def trG (ops : Array Oper) (o : Oper) : Option (Option (Nat × Bool)) :=
  match o.guard with
  | none => some none
  | some (j, want) => match (ops[j]?).bind (·.dst) with
    | some s => some (some (s, want))
    | none => none
def trOp (P : Program) (N : Nat) (ops : Array Oper) (o : Oper) : Option AOp :=
  match trK P o.op, trG ops o with
  | some k, some g => match o.dst with
    | some d => if d < N then some ⟨some d, g, k⟩ else none
    | none => some ⟨none, g, k⟩
  | _, _ => none
def edgesOf (o : Oper) : List Nat := (o.after.toList.filter (Region.binds .any)).map (·.on)
def trC (P : Program) (N : Nat) : Code → Option ACode
  | .skip => some .skip
  | .ret => some .ret
  | .exit id => some (.exit id)
  | .seq a b => match trC P N a, trC P N b with
    | some x, some y => some (.seq [] x y)
    | _, _ => none
  | .cond c a b => match trC P N a, trC P N b with
    | some x, some y => some (.cond c x y)
    | _, _ => none
  | .block id a => match trC P N a with
    | some x => some (.block id x)
    | none => none
  | .loop a => match trC P N a with
    | some x => some (.loop x)
    | none => none
  | .scope a => match trC P N a with
    | some x => some (.scp x)
    | none => none
  | .label _ => some .lab
  | .region _ ops false => match ops.toList.mapM (trOp P N ops) with
    | some l => some (.reg l)
    | none => none
  | .region _ ops true => match ops.toList.mapM (trOp P N ops) with
    | some l => some (.dreg l (ops.toList.map edgesOf) [])
    | none => none
  | _ => none
/-- An operation as it is translated: a row or a box that stays as it is made is told from others only for the walk. -/
def EK.bare : EK → EK
  | .bxr x => .box x
  | .bsr len cells parts => .bsl len cells parts
  | k => k
def K.bare : K → K
  | .e k => .e k.bare
  | k => k
def AOp.bare (o : AOp) : AOp := ⟨o.d, o.g, o.k.bare⟩
/-- The code without what is laid beside it for the walk. -/
def ACode.bare : ACode → ACode
  | .seq _ a b => .seq [] a.bare b.bare
  | .cond c a b => .cond c a.bare b.bare
  | .block id a => .block id a.bare
  | .loop a => .loop a.bare
  | .fz _ a | .wk _ a => a.bare
  | .scp a => .scp a.bare
  | .reg ops => .reg (ops.map AOp.bare)
  | .dreg ops es _ | .dregt ops es _ => .dreg (ops.map AOp.bare) es []
  | c => c
end Go.Ab
