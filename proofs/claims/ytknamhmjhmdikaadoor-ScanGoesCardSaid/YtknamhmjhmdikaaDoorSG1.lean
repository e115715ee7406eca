/- Joined. -/
import Derived.WalkKit
import Derived.KernelRfl
import Derived.WalkSpells
import Derived.RangeFuncOwn
import Derived.OrdersIn
import Derived.DefersIn
import Derived.MapKept
import Derived.Carry
import Derived.LoopN
import Derived.Defers
import Derived.LoopNIn
import Derived.RangeFuncLeaves
set_option linter.unusedSimpArgs false
set_option linter.unusedVariables false
set_option maxRecDepth 10000
section
namespace Go.Ab
inductive AV where
 | any
 | int (k : IntKind) (n : Int)
 | bool (b : Bool)
 | str (s : ByteArray)
 | nilp
 | ptr (b off : Nat)
 | cp (cells : List AV) (off : Nat)
 | nils
 | sl (b off len cap : Nat)
 | ro (cells : List AV) (len : Nat)
 | agg (cells : List AV)
 | tup (vs : List AV)
 | fn (f : Nat) (first caps : List AV)
 | nilf
 | raw (o : Obj)
 | mpp (r : Option Nat)
 | yl (l : Nat)
 deriving Inhabited

structure Blk where
 cells : List AV
 spare : Nat
 deriving Inhabited
abbrev Heap := Nat → Option Blk
def Heap.dom (h : Heap) (b : Nat) : Prop := h b ≠ none
def upd (h : Heap) (b : Nat) (x : Blk) : Heap := fun c => if c = b then some x else h c
def era (h : Heap) (b : Nat) : Heap := fun c => if c = b then none else h c

def isC (w : World) (b : Nat) : Prop := ∃ c t f, w.heap[b]? = some (.cells c t f)
inductive Rep (w : World) (O : Nat → Prop) : AV → Value → Prop
 | any (v : Value) : Rep w O .any v
 | int (k : IntKind) (n : Int) : Rep w O (.int k n) (.int k n)
 | bool (b : Bool) : Rep w O (.bool b) (.bool b)
 | str (s : ByteArray) : Rep w O (.str s) (.string s)
 | nilp : Rep w O .nilp (.pointer none)
 | ptr (b off : Nat) (hk : isC w b) : Rep w O (.ptr b off) (.pointer (some ⟨b, off, none⟩))
 | cp (cells : List AV) (off b o : Nat) (cs : Nat → Value) (hb : b < w.heap.size) (hO : ¬ O b)
   (hc : ∀ i v, cells[i]? = some v → w.cell? ⟨b, o + i, none⟩ = some (cs i) ∧ (cs i).oneCell' = true)
   (hr : ∀ i v, cells[i]? = some v → Rep w O v (cs i)) : Rep w O (.cp cells off) (.pointer (some ⟨b, o + off, none⟩))
 | nils : Rep w O .nils (.slice none 0 0)
 | sl (b off len cap : Nat) (hlc : len ≤ cap) (hk : isC w b) : Rep w O (.sl b off len cap) (.slice (some ⟨b, off, none⟩) len cap)
 | sl0 (b off : Nat) (a : Addr) : Rep w O (.sl b off 0 0) (.slice (some a) 0 0)
 | roe (a : Option Addr) (cap : Nat) : Rep w O (.ro [] 0) (.slice a 0 cap)
 | ro (cells : List AV) (len cap b o : Nat) (cs : Nat → Value) (hlc : len ≤ cap) (hb : b < w.heap.size) (hO : ¬ O b)
   (hc : ∀ i v, cells[i]? = some v → w.cell? ⟨b, o + i, none⟩ = some (cs i) ∧ (cs i).oneCell' = true)
   (hr : ∀ i v, cells[i]? = some v → Rep w O v (cs i)) : Rep w O (.ro cells len) (.slice (some ⟨b, o, none⟩) len cap)
 | agg (cells : List AV) (cs : Array Value) (hl : cells.length = cs.size) (h1 : ∀ (i : Nat) (c : Value), cs[i]? = some c → c.oneCell' = true)
   (hr : ∀ (i : Nat) (v : AV) (c : Value), cells[i]? = some v → cs[i]? = some c → Rep w O v c) : Rep w O (.agg cells) (.agg cs)
 | tup (vs : List AV) (cs : Array Value) (hl : vs.length = cs.size)
   (hr : ∀ (i : Nat) (v : AV) (c : Value), vs[i]? = some v → cs[i]? = some c → Rep w O v c) : Rep w O (.tup vs) (.tuple cs)
 | fn (f : Nat) (first caps : List AV) (as cs : Array Value) (hl : first.length = as.size) (hl' : caps.length = cs.size)
   (hr : ∀ (i : Nat) (v : AV) (c : Value), first[i]? = some v → as[i]? = some c → Rep w O v c)
   (hr' : ∀ (i : Nat) (v : AV) (c : Value), caps[i]? = some v → cs[i]? = some c → Rep w O v c) : Rep w O (.fn f first caps) (.func (.func f) as cs)
 | nilf : Rep w O .nilf .nilFunc
 | mpp (r : Option Nat) : Rep w O (.mpp r) (.map r)
 | yl (l : Nat) : Rep w O (.yl l) (.func (.yield l) #[] #[])

def Keeps (w : World) (O : Nat → Prop) (w' : World) (O' : Nat → Prop) : Prop :=
 w.heap.size ≤ w'.heap.size ∧ (∀ b, b < w.heap.size → ¬ O b → ¬ O' b ∧ w'.heap[b]? = w.heap[b]?) ∧ ∀ b, isC w b → isC w' b

theorem Keeps.refl (w : World) (O : Nat → Prop) : Keeps w O w O := ⟨Nat.le_refl _, fun _ _ h => ⟨h, rfl⟩, fun _ h => h⟩
theorem Keeps.trans {w w1 w2 : World} {O O1 O2 : Nat → Prop} (h : Keeps w O w1 O1) (h' : Keeps w1 O1 w2 O2) : Keeps w O w2 O2 :=
 ⟨Nat.le_trans h.1 h'.1, fun b hb ho =>
  have ⟨x, y⟩ := h.2.1 b hb ho
  have ⟨z, t⟩ := h'.2.1 b (Nat.lt_of_lt_of_le hb h.1) x
  ⟨z, t.trans y⟩, fun b hb => h'.2.2 b (h.2.2 b hb)⟩
theorem cell_of_heap {w w' : World} {b o : Nat} (h : w'.heap[b]? = w.heap[b]?) : w'.cell? ⟨b, o, none⟩ = w.cell? ⟨b, o, none⟩ := by
 simp only [World.cell?, h]

theorem Rep.keep {w w' : World} {O O' : Nat → Prop} (hk : Keeps w O w' O') {a : AV} {v : Value} (h : Rep w O a v) : Rep w' O' a v := by
 induction h with
 | any v => exact .any v
 | int k n => exact .int k n
 | bool b => exact .bool b
 | str s => exact .str s
 | nilp => exact .nilp
 | ptr b off hc => exact .ptr b off (hk.2.2 b hc)
 | cp cells off b o cs hb hO hc hr ih =>
  have ⟨x, y⟩ := hk.2.1 b hb hO
  exact .cp cells off b o cs (Nat.lt_of_lt_of_le hb hk.1) x (fun i v hv => ⟨(cell_of_heap y).trans (hc i v hv).1, (hc i v hv).2⟩) (fun i v hv => ih i v hv)
 | nils => exact .nils
 | sl b off len cap hlc hc => exact .sl b off len cap hlc (hk.2.2 b hc)
 | sl0 b off a => exact .sl0 b off a
 | roe a cap => exact .roe a cap
 | ro cells len cap b o cs hlc hb hO hc hr ih =>
  have ⟨x, y⟩ := hk.2.1 b hb hO
  exact .ro cells len cap b o cs hlc (Nat.lt_of_lt_of_le hb hk.1) x (fun i v hv => ⟨(cell_of_heap y).trans (hc i v hv).1, (hc i v hv).2⟩) (fun i v hv => ih i v hv)
 | agg cells cs hl h1 hr ih => exact .agg cells cs hl h1 ih
 | tup vs cs hl hr ih => exact .tup vs cs hl ih
 | fn f first caps as cs hl hl' hr hr' ih ih' => exact .fn f first caps as cs hl hl' ih ih'
 | nilf => exact .nilf
 | mpp r => exact .mpp r
 | yl l => exact .yl l

def CRep (w : World) (h : Heap) (b : Nat) (x : Blk) : Prop :=
 ∃ (c : Array Value) (t : TypeId), w.heap[b]? = some (.cells c t (0, 0)) ∧ x.cells.length + x.spare = c.size ∧
  ∀ (i : Nat) (v : AV), x.cells[i]? = some v → ∃ cv, c[i]? = some cv ∧ cv.oneCell' = true ∧ Rep w h.dom v cv
def ORep (w : World) (b : Nat) (x : Blk) : Prop := ∃ o : Obj, x = ⟨[.raw o], 0⟩ ∧ o.isCells = false ∧ w.heap[b]? = some o
def HRep (w : World) (h : Heap) : Prop := ∀ b x, h b = some x → CRep w h b x ∨ ORep w b x
theorem isC_not {w : World} {b : Nat} {o : Obj} (hc : isC w b) (ho : w.heap[b]? = some o) : o.isCells = true := by
 obtain ⟨c, t, f, e⟩ := hc
 rw [e] at ho
 cases ho
 rfl
theorem HRep.cells {w : World} {h : Heap} (hh : HRep w h) {b : Nat} {x : Blk} (hb : h b = some x) (hc : isC w b) : CRep w h b x := by
 rcases hh b x hb with hk | ⟨o, _, h1, h2⟩
 ·exact hk
 ·rw [isC_not hc h2] at h1; cases h1
theorem HRep.obj {w : World} {h : Heap} (hh : HRep w h) {b : Nat} {o : Obj} {sp : Nat} (hb : h b = some ⟨[.raw o], sp⟩) : w.heap[b]? = some o ∧ o.isCells = false := by
 rcases hh b _ hb with ⟨c, t, _, _, hr⟩ | ⟨o', h0, h1, h2⟩
 ·obtain ⟨cv, _, _, hr⟩ := hr 0 (.raw o) rfl
  cases hr
 ·simp only [Blk.mk.injEq, List.cons.injEq, AV.raw.injEq, and_true] at h0
  rw [h0.1]; exact ⟨h2, h1⟩
def RepL (w : World) (O : Nat → Prop) (as : List AV) (vs : List Value) : Prop :=
 as.length = vs.length ∧ ∀ (i : Nat) (a : AV) (v : Value), as[i]? = some a → vs[i]? = some v → Rep w O a v
structure Glo where
 g : Nat → AV
 y : Nat → List AV → Heap → (AV → Heap → Prop) → Prop
 e : AV → Value → Prop
instance : CoeFun Glo (fun _ => Nat → AV) := ⟨Glo.g⟩
def Glo.of (g : Nat → AV) : Glo := ⟨g, fun _ _ _ _ => False, fun _ _ => False⟩
def GRep (G : Glo) (w : World) (O : Nat → Prop) : Prop := (∀ g, Rep w O (G g) (.pointer (some ⟨g, 0, none⟩))) ∧ ∀ x v, G.e x v → Rep w O x v
theorem GRep.keep {G : Glo} {w w' : World} {O O' : Nat → Prop} (hk : Keeps w O w' O') (h : GRep G w O) : GRep G w' O' := ⟨fun g => (h.1 g).keep hk, fun x v e => (h.2 x v e).keep hk⟩
theorem RepL.keep {w w' : World} {O O' : Nat → Prop} (hk : Keeps w O w' O') {as : List AV} {vs : List Value} (h : RepL w O as vs) : RepL w' O' as vs :=
 ⟨h.1, fun i a v ha hv => (h.2 i a v ha hv).keep hk⟩
theorem RepL.nil {w : World} {O : Nat → Prop} : RepL w O [] [] := ⟨rfl, fun i a v h => by simp at h⟩
theorem RepL.cons {w : World} {O : Nat → Prop} {a : AV} {v : Value} {as : List AV} {vs : List Value} (h : Rep w O a v) (h' : RepL w O as vs) :
  RepL w O (a :: as) (v :: vs) :=
 ⟨by simp [h'.1], fun i b c hb hc => by
  cases i with
  | zero => simp at hb hc; subst hb; subst hc; exact h
  | succ i => simp at hb hc; exact h'.2 i b c hb hc⟩

structure Fr (w : World) (h : Heap) (w' : World) (h' : Heap) : Prop where
 size : w.heap.size ≤ w'.heap.size
 blk : ∀ b, b < w.heap.size → h b = none → h' b = none ∧ w'.heap[b]? = w.heap[b]?
 cel : ∀ b, isC w b → isC w' b
 os : w'.os = w.os
 tape : w'.tape = w.tape
 out : w'.output = w.output
theorem Fr.keeps {w w' : World} {h h' : Heap} (hf : Fr w h w' h') : Keeps w h.dom w' h'.dom :=
 ⟨hf.size, fun b hb hn => by
  have hn' : h b = none := Classical.not_not.1 hn
  have ⟨x, y⟩ := hf.blk b hb hn'
  exact ⟨fun hd => hd x, y⟩, hf.cel⟩
theorem Fr.refl (w : World) (h : Heap) : Fr w h w h := ⟨Nat.le_refl _, fun _ _ hn => ⟨hn, rfl⟩, fun _ h => h, rfl, rfl, rfl⟩
theorem Fr.trans {w w1 w2 : World} {h h1 h2 : Heap} (a : Fr w h w1 h1) (b : Fr w1 h1 w2 h2) : Fr w h w2 h2 :=
 ⟨Nat.le_trans a.size b.size, fun c hc hn =>
  have ⟨x, y⟩ := a.blk c hc hn
  have ⟨z, t⟩ := b.blk c (Nat.lt_of_lt_of_le hc a.size) x
  ⟨z, t.trans y⟩, fun c hc => b.cel c (a.cel c hc), b.os.trans a.os, b.tape.trans a.tape, b.out.trans a.out⟩

def Spec (P : Program) (G : Glo) (f : FuncId) (args : List AV) (h : Heap) (Q : AV → Heap → Prop) : Prop :=
 ∀ (w : World) (vs : List Value), HRep w h → GRep G w h.dom → RepL w h.dom args vs →
  Calls P f vs.toArray w fun e w' => ∃ v r h', e = .returned v ∧ Q r h' ∧ HRep w' h' ∧ Rep w' h'.dom r v ∧ Fr w h w' h'
theorem Spec.mono {P : Program} {G : Glo} {f : FuncId} {args : List AV} {h : Heap} {Q Q' : AV → Heap → Prop} (hs : Spec P G f args h Q)
  (hq : ∀ r h', Q r h' → Q' r h') : Spec P G f args h Q' :=
 fun w vs h1 h2 h3 => (hs w vs h1 h2 h3).mono fun _ _ ⟨v, r, h', a, b, c⟩ => ⟨v, r, h', a, hq _ _ b, c⟩

def YOk (P : Program) (G : Glo) : Prop :=
 ∀ l args h Q, G.y l args h Q → ∀ (w : World) (vs : List Value), HRep w h → GRep G w h.dom → RepL w h.dom args vs →
  YieldAt Fence.wide 0 P l vs.toArray w fun e w' => ∃ v r h', e = .returned v ∧ Q r h' ∧ HRep w' h' ∧ Rep w' h'.dom r v ∧ Fr w h w' h'
def Le (r : AV) (h : Heap) (r' : AV) (h' : Heap) : Prop :=
 ∀ (w : World) (v : Value), HRep w h → Rep w h.dom r v → HRep w h' ∧ Rep w h'.dom r' v ∧ (∀ b, h b = none → h' b = none)
theorem Spec.weak {P : Program} {G : Glo} {f : FuncId} {args : List AV} {h : Heap} {Q Q' : AV → Heap → Prop} (hs : Spec P G f args h Q)
  (hq : ∀ r h1, Q r h1 → ∃ r' h2, Q' r' h2 ∧ Le r h1 r' h2) : Spec P G f args h Q' :=
 fun w vs h1 h2 h3 => (hs w vs h1 h2 h3).mono fun _ w' ⟨v, r, h', a, b, c, d, e⟩ => by
  obtain ⟨r', h2, hq', hl⟩ := hq _ _ b
  obtain ⟨x, y, z⟩ := hl w' v c d
  exact ⟨v, r', h2, a, hq', x, y, e.size, fun b hb hn => ⟨z b (e.blk b hb hn).1, (e.blk b hb hn).2⟩, e.cel, e.os, e.tape, e.out⟩
end Go.Ab
end
section
namespace Go.Ab
/-! The operations, with all that the types tell written out, and what they do to what is known. -/
abbrev Env := List (Nat × AV)
def lk : Env → Nat → AV
 | [], _ => .any
 | (j, v) :: r, i => bif i == j then v else lk r i
def put (d : Option Nat) (v : AV) (ρ : Env) : Env := match d with
 | some i => (i, v) :: ρ
 | none => ρ
def ofV1 : Value → AV
 | .int k n => .int k n
 | .bool b => .bool b
 | .string s => .str s
 | .pointer none => .nilp
 | .slice none 0 0 => .nils
 | .nilFunc => .nilf
 | .map r => .mpp r
 | _ => .any
def ofV : Value → AV
 | .agg cs => if cs.toList.all Value.oneCell' then .agg (cs.toList.map ofV1) else .any
 | v => ofV1 v
def xv (G : Glo) (ρ : Env) : Operand → AV
 | .tmp t => lk ρ t
 | .const v => ofV v
 | .global g => G g
 | .func f => .fn f [] []

inductive CK where
 | b | i | s
 deriving DecidableEq, Inhabited
inductive RK where
 | mv (x : Operand)
 | pick (c a b : Operand)
 | bin (op : BinOp) (x y : Operand)
 | eqb (neg : Bool) (x y : Operand)
 | eqp (neg : Bool) (x y : Operand)
 | eqa (neg : Bool) (ks : List CK) (x y : Operand)
 | un (op : UnOp) (x : Operand)
 | conv (k : IntKind) (x : Operand)
 | bstr (x : Operand)
 | fad (off : Nat) (x : Operand)
 | fld (off : Nat) (n : Option Nat) (x : Operand)
 | ixs (sz : Nat) (x i : Operand)
 | ixa (n sz : Nat) (x i : Operand)
 | ixv (n sz : Nat) (m : Option Nat) (x i : Operand)
 | ixb (x i : Operand)
 | ld (n : Option Nat) (x : Operand)
 | nck (x : Operand)
 | ext (i : Nat) (x : Operand)
 | len (x : Operand)
 | lens (x : Operand)
 | mm (mx : Bool) (x y : Operand)
 | bld (zero : List AV) (parts : List (Nat × Nat × Operand))
 | mkf (f : Nat) (first caps : List Operand)
 | sls (sz : Nat) (x : Operand) (lo hi : Option Operand)
 | sla (n sz : Nat) (x : Operand) (lo hi : Option Operand)
 | slb (x : Operand) (lo hi : Option Operand)
 | sls3 (sz : Nat) (x : Operand) (lo : Option Operand) (hi mx : Operand)
 | lkp (k : IntKind) (z : AV) (ok : Bool) (x i : Operand)
 | lenm (x : Operand)
 | eqm (neg : Bool) (x : Operand)
 deriving Inhabited
inductive EK where
 | asg (x : Operand)
 | alc (zero : List AV)
 | box (x : Operand)
 | bsl (len : Nat) (cells : List AV) (parts : List (Nat × Nat × Operand))
 | bxr (x : Operand)
 | bsr (len : Nat) (cells : List AV) (parts : List (Nat × Nat × Operand))
 | st (n : Nat) (a v : Operand)
 | app (sz bytes : Nat) (x y : Operand)
 | call (f : Nat) (args : List Operand)
 | callv (x : Operand) (args : List Operand)
 | nilq (neg : Bool) (x : Operand)
 | mks (bytes : Nat) (z : List AV) (x y : Operand)
 | cpy (sz : Nat) (x y : Operand)
 | mkm
 | mup (k : IntKind) (x i v : Operand)
 | dlt (k : IntKind) (x i : Operand)
 deriving Inhabited
inductive K where
 | r (k : RK)
 | e (k : EK)
 deriving Inhabited
structure AOp where
 d : Option Nat
 g : Option (Nat × Bool)
 k : K
 deriving Inhabited
inductive OT where
 | nil
 | r (i : Nat) (t : OT)
 | e (i : Nat) (fl : List Nat) (t alt : OT)
 deriving Inhabited
inductive ACode where
 | skip
 | ret
 | exit (id : Nat)
 | seq (keep : List Nat) (a b : ACode)
 | cond (c : Operand) (a b : ACode)
 | block (id : Nat) (a : ACode)
 | loop (a : ACode)
 | reg (ops : List AOp)
 | dreg (ops : List AOp) (edges : List (List Nat)) (order : List (Nat × List Nat))
 | dregt (ops : List AOp) (edges : List (List Nat)) (t : OT)
 | fz (s : Nat) (a : ACode)
 | wk (s : Nat) (a : ACode)
 | scp (a : ACode)
 | lab
 deriving Inhabited

def cellsEq : List CK → List AV → List AV → Option Bool
 | [], [], [] => some true
 | .i :: ks, .int k a :: r, .int k' b :: s => if k = k' then (cellsEq ks r s).map fun t => (a == b) && t else none
 | .b :: ks, .bool a :: r, .bool b :: s => (cellsEq ks r s).map fun t => (a == b) && t
 | .s :: ks, .str a :: r, .str b :: s => (cellsEq ks r s).map fun t => (a == b) && t
 | _, _, _ => none

def abin (op : BinOp) : AV → AV → Option AV
 | .int k a, .int k' b =>
  match op with
  | .shl => if b < 0 then none else some (.int k (k.wrap (a * 2 ^ (min b.toNat k.bits))))
  | .shr => if b < 0 then none else some (.int k (a.fdiv (2 ^ (min b.toNat k.bits))))
  | .add => if k = k' then some (.int k (k.wrap (a + b))) else none
  | .sub => if k = k' then some (.int k (k.wrap (a - b))) else none
  | .mul => if k = k' then some (.int k (k.wrap (a * b))) else none
  | .quo => if k = k' then (if b = 0 then none else some (.int k (k.wrap (a.tdiv b)))) else none
  | .rem => if k = k' then (if b = 0 then none else some (.int k (a.tmod b))) else none
  | .and => if k = k' then some (.int k (k.wrap (BitVec.ofInt k.bits a &&& BitVec.ofInt k.bits b).toNat)) else none
  | .or => if k = k' then some (.int k (k.wrap (BitVec.ofInt k.bits a ||| BitVec.ofInt k.bits b).toNat)) else none
  | .xor => if k = k' then some (.int k (k.wrap (BitVec.ofInt k.bits a ^^^ BitVec.ofInt k.bits b).toNat)) else none
  | .andNot => if k = k' then some (.int k (k.wrap (BitVec.ofInt k.bits a &&& ~~~ BitVec.ofInt k.bits b).toNat)) else none
  | .eql => if k = k' then some (.bool (a == b)) else none
  | .neq => if k = k' then some (.bool (a != b)) else none
  | .lss => if k = k' then some (.bool (a < b)) else none
  | .leq => if k = k' then some (.bool (a ≤ b)) else none
  | .gtr => if k = k' then some (.bool (a > b)) else none
  | .geq => if k = k' then some (.bool (a ≥ b)) else none
 | .str a, .str b =>
  match op with
  | .add => if a.size + b.size ≤ 9223372036854775807 then some (.str (a ++ b)) else none
  | .eql => some (.bool (a.toList == b.toList))
  | .neq => some (.bool !(a.toList == b.toList))
  | .lss => some (.bool (Op.bytesLess a.toList b.toList))
  | _ => none
 | _, _ => none
def abeq (neg : Bool) : AV → AV → Option AV
 | .bool a, .bool b => some (.bool ((a == b) != neg))
 | _, _ => none
def peq (neg : Bool) : AV → AV → Option AV
 | .nilp, .nilp => some (.bool (!neg))
 | .ptr _ _, .nilp | .cp _ _, .nilp => some (.bool neg)
 | _, _ => none
def aeq (neg : Bool) (ks : List CK) : AV → AV → Option AV
 | .agg a, .agg b => (cellsEq ks a b).map fun t => .bool (t != neg)
 | _, _ => none
def aun (op : UnOp) : AV → Option AV
 | .int k n => match op with
  | .neg => some (.int k (k.wrap (0 - n)))
  | .xor => some (.int k (k.wrap (BitVec.ofInt k.bits (if k.signed then -1 else k.max) ^^^ BitVec.ofInt k.bits n).toNat))
  | _ => none
 | .bool b => match op with
  | .not => some (.bool !b)
  | _ => none
 | _ => none
def cellsOf : AV → Option (List AV)
 | .agg cs => some cs
 | .any | .tup _ => none
 | v => some [v]
def partOf (cells : List AV) (off : Nat) : Option Nat → Option AV
 | none => cells[off]?
 | some n => if off + n ≤ cells.length then some (.agg ((cells.drop off).take n)) else none
def ald (h : Heap) (n : Option Nat) : AV → Option AV
 | .ptr b o => match h b with
  | some x => partOf x.cells o n
  | none => none
 | .cp cells o => partOf cells o n
 | _ => none
def splice (cells : List AV) (off : Nat) (new : List AV) : List AV :=
 match new with
 | [v] => cells.set off v
 | _ => cells.take off ++ new ++ cells.drop (off + new.length)
def asto (h : Heap) (n : Nat) : AV → Option (List AV) → Option Heap
 | .ptr b o, some cs => match h b with
  | some x => if cs.length = n ∧ o + n ≤ x.cells.length then some (upd h b ⟨splice x.cells o cs, x.spare⟩) else none
  | none => none
 | _, _ => none
def afill (x : Operand → AV) (cells : List AV) : List (Nat × Nat × Operand) → Option (List AV)
 | [] => some cells
 | (off, n, o) :: r => match cellsOf (x o) with
  | some cs => if cs.length = n ∧ off + n ≤ cells.length then afill x (splice cells off cs) r else none
  | none => none
def abound (x : Operand → AV) (dflt most : Nat) : Option Operand → Option Nat
 | none => some dflt
 | some o => match x o with
  | .int _ i => if 0 ≤ i ∧ i ≤ (most : Int) then some i.toNat else none
  | _ => none
def aslice (sz l hh : Nat) : AV → Option AV
 | .sl b off _ cap => some (.sl b (off + l * sz) (hh - l) (cap - l))
 | .ro cells _ => some (.ro ((cells.drop (l * sz)).take ((hh - l) * sz)) (hh - l))
 | .nils => some .nils
 | _ => none
def alen : AV → Option Nat
 | .sl _ _ n _ => some n
 | .ro _ n => some n
 | .nils => some 0
 | _ => none
def acap : AV → Option Nat
 | .sl _ _ _ c => some c
 | .ro _ n => some n
 | .nils => some 0
 | _ => none
def aslice3 (sz l hh mm : Nat) : AV → Option AV
 | .sl b off _ _ => some (.sl b (off + l * sz) (hh - l) (mm - l))
 | .ro cells _ => some (.ro ((cells.drop (l * sz)).take ((hh - l) * sz)) (hh - l))
 | .nils => some .nils
 | _ => none
def mkCells (z : List AV) (n : Nat) : List AV := match z with
 | [v] => List.replicate n v
 | _ => (List.replicate n z).flatten
def addedBy (h : Heap) (sz : Nat) : AV → Option (Nat × List AV)
 | .nils => some (0, [])
 | .ro cells n => if cells.length = n * sz then some (n, cells) else none
 | .sl b o n _ => match h b with
  | some x => if o + n * sz ≤ x.cells.length then some (n, (x.cells.drop o).take (n * sz)) else none
  | none => none
 | .str s => if sz = 1 then some (s.size, s.data.toList.map fun c => .int .u8 c.toNat) else none
 | _ => none
def intsOf : List AV → Option (List Int)
 | [] => some []
 | .int .u8 n :: r => (intsOf r).map (n :: ·)
 | _ => none
def strOf (ns : List Int) : ByteArray := ns.foldl (fun r n => r.push (UInt8.ofNat n.toNat)) ByteArray.empty
def mapK : Blk → Option (Array MapEntry × Nat)
 | ⟨[.raw (.map es c)], 0⟩ => some (es, c)
 | _ => none
def mapAt (h : Heap) : AV → Option (Array MapEntry × Nat)
 | .mpp none => some (#[], 0)
 | .mpp (some b) => (h b).bind mapK
 | _ => none
def valM : AV → Option Value
 | .int k n => some (.int k n)
 | .bool b => some (.bool b)
 | .str s => some (.string s)
 | .mpp r => some (.map r)
 | _ => none
def lkA (z : AV) (ok : Bool) (r : Option (Nat × Value)) : AV :=
 let v := match r with
  | some (_, v) => ofV1 v
  | none => z
 bif ok then .tup [v, .bool r.isSome] else v
def evR (G : Glo) (k : RK) (ρ : Env) (h : Heap) : Option AV :=
 match k with
 | .mv x => some (xv G ρ x)
 | .pick c a b => match xv G ρ c with
  | .bool t => some (bif t then xv G ρ a else xv G ρ b)
  | _ => none
 | .bin op x y => abin op (xv G ρ x) (xv G ρ y)
 | .eqb neg x y => abeq neg (xv G ρ x) (xv G ρ y)
 | .eqp neg x y => peq neg (xv G ρ x) (xv G ρ y)
 | .eqa neg ks x y => aeq neg ks (xv G ρ x) (xv G ρ y)
 | .un op x => aun op (xv G ρ x)
 | .conv k x => match xv G ρ x with
  | .int _ n => some (.int k (k.wrap n))
  | _ => none
 | .bstr x => match xv G ρ x with
  | .str _ => none
  | v => match addedBy h 1 v with
   | some (_, cells) => (intsOf cells).map fun ns => .str (strOf ns)
   | none => none
 | .fad off x => match xv G ρ x with
  | .ptr b o => some (.ptr b (o + off))
  | .cp cells o => some (.cp cells (o + off))
  | _ => none
 | .fld off n x => match xv G ρ x with
  | .agg cells => partOf cells off n
  | _ => none
 | .ixs sz x i => match xv G ρ x, xv G ρ i with
  | .sl b o len _, .int _ j => if 0 ≤ j ∧ j < (len : Int) then some (.ptr b (o + j.toNat * sz)) else none
  | .ro cells len, .int _ j => if 0 ≤ j ∧ j < (len : Int) then some (.cp cells (j.toNat * sz)) else none
  | _, _ => none
 | .ixa n sz x i => match xv G ρ x, xv G ρ i with
  | .ptr b o, .int _ j => if 0 ≤ j ∧ j < (n : Int) then some (.ptr b (o + j.toNat * sz)) else none
  | .cp cells o, .int _ j => if 0 ≤ j ∧ j < (n : Int) then some (.cp cells (o + j.toNat * sz)) else none
  | _, _ => none
 | .ixv n sz m x i => match xv G ρ x, xv G ρ i with
  | .agg cells, .int _ j => if 0 ≤ j ∧ j < (n : Int) then partOf cells (j.toNat * sz) m else none
  | _, _ => none
 | .ixb x i => match xv G ρ x, xv G ρ i with
  | .str s, .int _ j => if 0 ≤ j ∧ j < (s.size : Int) then some (.int .u8 (s.data.toList[j.toNat]?.getD 0).toNat) else none
  | _, _ => none
 | .ld n x => ald h n (xv G ρ x)
 | .nck x => match xv G ρ x with
  | .ptr b o => some (.ptr b o)
  | .cp cells o => some (.cp cells o)
  | _ => none
 | .ext i x => match xv G ρ x with
  | .tup vs => vs[i]?
  | _ => none
 | .len x => (alen (xv G ρ x)).map fun (n : Nat) => AV.int .i64 (n : Int)
 | .lens x => match xv G ρ x with
  | .str s => some (.int .i64 s.size)
  | _ => none
 | .mm mx x y => match xv G ρ x, xv G ρ y with
  | .int k a, .int _ b => some (.int k (bif mx then (if b > a then b else a) else (if b < a then b else a)))
  | _, _ => none
 | .bld zero parts => (afill (xv G ρ) zero parts).map .agg
 | .mkf f first caps => some (.fn f (first.map (xv G ρ)) (caps.map (xv G ρ)))
 | .sls sz x lo hi => match alen (xv G ρ x) with
  | some n => match abound (xv G ρ) n n hi with
   | some hh => match abound (xv G ρ) 0 hh lo with
    | some l => aslice sz l hh (xv G ρ x)
    | none => none
   | none => none
  | none => none
 | .sla n sz x lo hi => match abound (xv G ρ) n n hi with
  | some hh => match abound (xv G ρ) 0 hh lo with
   | some l => match xv G ρ x with
    | .ptr b o => some (.sl b (o + l * sz) (hh - l) (n - l))
    | .cp cells o => some (.ro ((cells.drop (o + l * sz)).take ((hh - l) * sz)) (hh - l))
    | _ => none
   | none => none
  | none => none
 | .slb x lo hi => match xv G ρ x with
  | .str s => match abound (xv G ρ) s.size s.size hi with
   | some hh => match abound (xv G ρ) 0 hh lo with
    | some l => some (.str (s.extract l hh))
    | none => none
   | none => none
  | _ => none
 | .sls3 sz x lo hi mx => match acap (xv G ρ x) with
  | some c => match abound (xv G ρ) 0 c (some mx) with
   | some mm => match abound (xv G ρ) 0 mm (some hi) with
    | some hh => match abound (xv G ρ) 0 hh lo with
     | some l => aslice3 sz l hh mm (xv G ρ x)
     | none => none
    | none => none
   | none => none
  | none => none
 | .lkp k z ok x i => match mapAt h (xv G ρ x), xv G ρ i with
  | some (es, _), .int k' n => (Instr.findNow (.int k) (.int k' n) es.toList 0).map (lkA z ok)
  | _, _ => none
 | .lenm x => (mapAt h (xv G ρ x)).map fun e => .int .i64 (e.1.size : Int)
 | .eqm neg x => match xv G ρ x with
  | .mpp r => some (.bool (r.isNone != neg))
  | _ => none
def mupQ (k : IntKind) (x i v : AV) (h : Heap) (Q : AV → Heap → Prop) : Prop :=
 match x, i, valM v with
 | .mpp (some b), .int k' n, some c => match (h b).bind mapK with
  | some (es, t) => match Instr.findNow (.int k) (.int k' n) es.toList 0 with
   | some (some (j, _)) => Q (.tup []) (upd h b ⟨[.raw (.map (es.modify j fun e => { e with key := .int k' n, val := c }) t)], 0⟩)
   | some none => Q (.tup []) (upd h b ⟨[.raw (.map (es.push { key := .int k' n, val := c, born := t }) (t + 1))], 0⟩)
   | none => False
  | _ => False
 | _, _, _ => False
def dltQ (k : IntKind) (x i : AV) (h : Heap) (Q : AV → Heap → Prop) : Prop :=
 match x, i with
 | .mpp none, .int _ _ => Q (.tup []) h
 | .mpp (some b), .int k' n => match (h b).bind mapK with
  | some (es, t) => match Instr.findNow (.int k) (.int k' n) es.toList 0 with
   | some (some (j, _)) => Q (.tup []) (upd h b ⟨[.raw (.map (es.eraseIdxIfInBounds j) t)], 0⟩)
   | some none => Q (.tup []) (upd h b ⟨[.raw (.map es t)], 0⟩)
   | none => False
  | _ => False
 | _, _ => False
def cpyQ (sz m : Nat) (cs : List AV) (x : AV) (h : Heap) (Q : AV → Heap → Prop) : Prop :=
 match x with
 | .nils => Q (.int .i64 0) h
 | .sl b o n _ => match h b with
  | none => False
  | some k => o + n * sz ≤ k.cells.length ∧ Q (.int .i64 ((min m n : Nat) : Int)) (upd h b ⟨splice k.cells o (cs.take (min m n * sz)), k.spare⟩)
 | _ => False
def mksQ (bytes : Nat) (z : List AV) (x y : AV) (h : Heap) (Q : AV → Heap → Prop) : Prop :=
 match x, y with
 | .int _ l, .int _ c => 0 ≤ l ∧ l ≤ c ∧ c * bytes ≤ 140737488355328 ∧ c ≤ 9223372036854775807 ∧
   ∀ b, h b = none → Q (.sl b 0 l.toNat c.toNat) (upd h b ⟨mkCells z l.toNat, (c - l).toNat * z.length⟩)
 | _, _ => False
def appQ (sz bytes m : Nat) (cs : List AV) (x : AV) (h : Heap) (Q : AV → Heap → Prop) : Prop :=
 match x with
 | .nils => m * bytes ≤ 140737488355328 ∧ m ≤ 9223372036854775807 ∧ (m = 0 → Q .nils h) ∧
   (0 < m → ∀ b cap, h b = none → m ≤ cap → Q (.sl b 0 m cap) (upd h b ⟨cs, (cap - m) * sz⟩))
 | .sl b o n cap => match h b with
  | none => False
  | some x => o + n * sz = x.cells.length ∧ cap * sz ≤ n * sz + x.spare ∧ (n + m) * bytes ≤ 140737488355328 ∧ n + m ≤ 9223372036854775807 ∧
    ∀ b' pre cap' spare', (b' = b ∨ h b' = none) → cap' * sz ≤ (n + m) * sz + spare' →
     Q (.sl b' pre.length (n + m) cap') (upd (era h b) b' ⟨pre ++ x.cells.drop o ++ cs, spare'⟩)
 | _ => False
def callable (P : Program) (f : Nat) : Prop := ∃ fn, P.funcs[f]? = some fn ∧ fn.body.isSome ∧ (fn.name == "runtime.NumGoroutine") = false
def stE (P : Program) (G : Glo) (k : EK) (ρ : Env) (h : Heap) (Q : AV → Heap → Prop) : Prop :=
 match k with
 | .asg x => Q (xv G ρ x) h
 | .alc zero => ∀ b, h b = none → Q (.ptr b 0) (upd h b ⟨zero, 0⟩)
 | .box x => match cellsOf (xv G ρ x) with
  | some cs => ∀ b, h b = none → Q (.ptr b 0) (upd h b ⟨cs, 0⟩)
  | none => False
 | .bsl len cells parts => match afill (xv G ρ) cells parts with
  | some cs => ∀ b, h b = none → Q (.sl b 0 len len) (upd h b ⟨cs, 0⟩)
  | none => False
 | .bxr x => match cellsOf (xv G ρ x) with
  | some cs => Q (.cp cs 0) h
  | none => False
 | .bsr len cells parts => match afill (xv G ρ) cells parts with
  | some cs => (len = 0 → cs = []) ∧ Q (.ro cs len) h
  | none => False
 | .st n a v => match asto h n (xv G ρ a) (cellsOf (xv G ρ v)) with
  | some h' => Q (.tup []) h'
  | none => False
 | .app sz bytes x y => match addedBy h sz (xv G ρ y) with
  | none => False
  | some (m, cs) => appQ sz bytes m cs (xv G ρ x) h Q
 | .call f args => Spec P G f (args.map (xv G ρ)) h Q
 | .callv x args => match xv G ρ x with
  | .fn f first caps => callable P f ∧ Spec P G f (first ++ args.map (xv G ρ) ++ caps) h Q
  | .yl l => YOk P G ∧ G.y l (args.map (xv G ρ)) h Q
  | _ => False
 | .nilq neg x => match xv G ρ x with
  | .nils => Q (.bool (!neg)) h
  | .sl _ _ _ _ => Q (.bool neg) h
  | .ro _ n => (n = 0 → Q (.bool (!neg)) h) ∧ Q (.bool neg) h
  | _ => False
 | .mks bytes z x y => mksQ bytes z (xv G ρ x) (xv G ρ y) h Q
 | .cpy sz x y => match addedBy h sz (xv G ρ y) with
  | none => False
  | some (m, cs) => cpyQ sz m cs (xv G ρ x) h Q
 | .mkm => ∀ b, h b = none → Q (.mpp (some b)) (upd h b ⟨[.raw (.map #[] 0)], 0⟩)
 | .mup k x i v => mupQ k (xv G ρ x) (xv G ρ i) (xv G ρ v) h Q
 | .dlt k x i => dltQ k (xv G ρ x) (xv G ρ i) h Q
def stp (P : Program) (G : Glo) (k : K) (ρ : Env) (h : Heap) (Q : AV → Heap → Prop) : Prop :=
 match k with
 | .r k => match evR G k ρ h with
  | some v => Q v h
  | none => False
 | .e k => stE P G k ρ h Q
def gd (g : Option (Nat × Bool)) (ρ : Env) (yes no : Prop) : Prop :=
 match g with
 | none => yes
 | some (s, want) => match lk ρ s with
  | .bool b => (b = want → yes) ∧ (b ≠ want → no)
  | .tup _ => no
  | _ => False
def rwp (P : Program) (G : Glo) : List AOp → Env → Heap → (Env → Heap → Prop) → Prop
 | [], ρ, h, Q => Q ρ h
 | o :: rest, ρ, h, Q => gd o.g ρ (stp P G o.k ρ h fun v h' => rwp P G rest (put o.d v ρ) h' Q) (rwp P G rest (put o.d (.tup []) ρ) h Q)

/-! The translation: what the program's tables tell of an operation's types is written out. -/
def szOf (P : Program) (t : TypeId) : Option Nat := (P.info? t).map (·.size)
def shapeOf (P : Program) (t : TypeId) : Option (Option Nat) :=
 match P.underlying t with
 | some (.struct _) | some (.array _ _) => (szOf P t).map some
 | some _ => some none
 | none => none
def zeroOf (P : Program) (t : TypeId) : Option (List AV) :=
 match (P.info? t).bind (·.zero) with
 | some z => if z.cells.toList.all Value.oneCell' then some (z.cells.toList.map ofV1) else none
 | none => none
def fieldOf (P : Program) (s : TypeId) (f : Nat) : Option Field :=
 match P.underlying s with
 | some (.struct fs) => fs[f]?
 | _ => none
def partsOf (P : Program) (t : TypeId) (parts : List (Nat × Operand)) : Option (List (Nat × Nat × Operand)) :=
 match P.underlying t with
 | some (.struct fs) => if fs.toList.all (fun f => (szOf P f.type).isSome) then parts.mapM fun (x : Nat × Operand) => do
  let f ← fs[x.1]?
  let n ← szOf P f.type
  some (f.offset, n, x.2) else none
 | some (.array _ e) => do
  let n ← szOf P e
  some (parts.map fun (i, x) => (i * n, n, x))
 | _ => none
def flatFields (P : Program) (rec : TypeId → Option (List CK)) : List CK → List Field → Option (List CK)
 | n, [] => some n
 | n, f :: r => match rec f.type with
  | some m => if f.name ≠ "_" ∧ f.offset = n.length ∧ szOf P f.type = some m.length then flatFields P rec (n ++ m) r else none
  | none => none
def mapOf (P : Program) (t : TypeId) : Option (IntKind × TypeId) :=
 match P.underlying t with
 | some (.map k e) => match P.underlying k with
  | some (.int i) => some (i, e)
  | _ => none
 | _ => none
def flat (P : Program) : Nat → TypeId → Option (List CK)
 | 0, _ => none
 | d + 1, t => match P.underlying t with
  | some .bool => some [.b]
  | some (.int _) => some [.i]
  | some .string => some [.s]
  | some (.struct fs) => match flatFields P (flat P d) [] fs.toList with
   | some n => if szOf P t = some n.length ∧ P.stoodInHeld t = false then some n else none
   | none => none
  | some (.array n e) => match flat P d e with
   | some m => if szOf P e = some m.length ∧ szOf P t = some (n * m.length) then some ((List.replicate n m).flatten) else none
   | none => none
  | _ => none
def trBin (P : Program) (op : BinOp) (t : TypeId) (x y : Operand) : Option K :=
 match P.underlying t with
 | some (.int _) | some .string => some (.r (.bin op x y))
 | some .bool => match op with
  | .eql => some (.r (.eqb false x y))
  | .neq => some (.r (.eqb true x y))
  | _ => none
 | some (.pointer e) => if szOf P e = some 0 then none else match op with
  | .eql => some (.r (.eqp false x y))
  | .neq => some (.r (.eqp true x y))
  | _ => none
 | some (.slice _) => match y with
  | .const (.slice none 0 0) => match op with
   | .eql => some (.e (.nilq false x))
   | .neq => some (.e (.nilq true x))
   | _ => none
  | _ => none
 | some (.map _ _) => match y with
  | .const (.map none) => match op with
   | .eql => some (.r (.eqm false x))
   | .neq => some (.r (.eqm true x))
   | _ => none
  | _ => none
 | some (.struct _) | some (.array _ _) =>
  if P.eqGuardType P.depth t then none else if P.stoodInHeld t then none else
  match flat P 50 t, op with
  | some ks, .eql => some (.r (.eqa false ks x y))
  | some ks, .neq => some (.r (.eqa true ks x y))
  | _, _ => none
 | _ => none
def trBuiltin (P : Program) (b : Builtin) (args : Array Operand) (ts : Array TypeId) : Option K :=
 match b, args.toList, ts.toList with
 | .len, [x], [t] => match P.underlying t with
  | some .string => some (.r (.lens x))
  | some (.slice _) => some (.r (.len x))
  | some (.array n _) => some (.r (.mv (.const (.int .i64 n))))
  | some (.map _ _) => some (.r (.lenm x))
  | _ => none
 | .min, [x, y], _ => some (.r (.mm false x y))
 | .max, [x, y], _ => some (.r (.mm true x y))
 | .append, [x, y], [t, u] => match P.underlying t, P.underlying u with
  | some (.slice e), some (.slice _) | some (.slice e), some .string => match P.info? e with
   | some i => match i.zero with
    | some z => if z.cells.size = i.size ∧ 0 < i.size ∧ 0 < i.bytes then some (.e (.app i.size i.bytes x y)) else none
    | none => none
   | none => none
  | _, _ => none
 | .copy, [x, y], [t, _] => match P.underlying t with
  | some (.slice e) => match szOf P e with
   | some (n + 1) => some (.e (.cpy (n + 1) x y))
   | _ => none
  | _ => none
 | .delete, [x, i], t :: _ => (mapOf P t).map fun k => .e (.dlt k.1 x i)
 | _, _, _ => none
def trCall (P : Program) (c : Call) : Option K :=
 match c.callee with
 | .builtin b => trBuiltin P b c.args c.argTypes
 | .value (.func f) => match P.funcs[f]? with
  | some fn => if fn.body.isSome ∧ (fn.name == "runtime.NumGoroutine") = false then some (.e (.call f c.args.toList)) else none
  | none => none
 | .value x => some (.e (.callv x c.args.toList))
 | _ => none
def trK (P : Program) (op : Op) : Option K :=
 match op with
 | .move x => some (.r (.mv x))
 | .assign x => some (.e (.asg x))
 | .pick c a b => some (.r (.pick c a b))
 | .alloc t => (zeroOf P t).map fun z => .e (.alc z)
 | .box _ x => some (.e (.box x))
 | .build t parts => do
  let z ← zeroOf P t
  let ps ← partsOf P t parts.toList
  some (.r (.bld z ps))
 | .buildSlice t len parts => match P.underlying t with
  | some (.slice e) => do
   let z ← zeroOf P e
   let n ← szOf P e
   if 0 < n ∧ z.length = n ∧ len * n ≤ 4096 then some (.e (.bsl len ((List.range (len * n)).map fun i => z.getD (i % n) .any) (parts.toList.map fun (i, x) => (i * n, n, x)))) else none
  | _ => none
 | .load t x => (shapeOf P t).map fun n => .r (.ld n x)
 | .store t a v => (szOf P t).map fun n => .e (.st n a v)
 | .nilCheck x => some (.r (.nck x))
 | .binOp op t x y _ => trBin P op t x y
 | .unOp op _ x => some (.r (.un op x))
 | .convert src dst x => match P.underlying src, P.underlying dst with
  | some _, some (.int k) => some (.r (.conv k x))
  | some (.slice e), some .string => match P.underlying e with
   | some (.int .u8) => some (.r (.bstr x))
   | _ => none
  | _, _ => none
 | .makeFunc (.func f) first caps => some (.r (.mkf f first.toList caps.toList))
 | .slice t x lo hi none => match P.underlying t with
  | some (.array n e) => (szOf P e).map fun sz => .r (.sla n sz x lo hi)
  | some (.slice e) => (szOf P e).map fun sz => .r (.sls sz x lo hi)
  | some .string => some (.r (.slb x lo hi))
  | _ => none
 | .slice t x lo (some hi) (some mx) => match P.underlying t with
  | some (.slice e) => (szOf P e).map fun sz => .r (.sls3 sz x lo hi mx)
  | _ => none
 | .makeSlice t x y => match P.underlying t with
  | some (.slice e) => match P.info? e with
   | some i => match zeroOf P e with
    | some z => if z.length = i.size ∧ 0 < i.size ∧ 0 < i.bytes then some (.e (.mks i.bytes z x y)) else none
    | none => none
   | none => none
  | _ => none
 | .fieldAddr s x f => match fieldOf P s f with
  | some fd => match szOf P fd.type with
   | some (_ + 1) => some (.r (.fad fd.offset x))
   | _ => none
  | none => none
 | .field s x f => match fieldOf P s f with
  | some fd => (shapeOf P fd.type).map fun n => .r (.fld fd.offset n x)
  | none => none
 | .indexAddr t x i => match P.underlying t with
  | some (.array n e) => (szOf P e).map fun sz => .r (.ixa n sz x i)
  | some (.slice e) => (szOf P e).map fun sz => .r (.ixs sz x i)
  | _ => none
 | .index t x i => match P.underlying t with
  | some (.array n e) => do
   let sz ← szOf P e
   let m ← shapeOf P e
   some (.r (.ixv n sz m x i))
  | some .string => some (.r (.ixb x i))
  | _ => none
 | .extract t i => some (.r (.ext i t))
 | .call c => trCall P c
 | .makeMap t none => match P.underlying t with
  | some (.map _ _) => some (.e .mkm)
  | _ => none
 | .lookup t x i ok => match mapOf P t with
  | some (k, e) => ((P.info? e).bind (·.zero)).map fun z => .r (.lkp k (ofV1 z) ok x i)
  | none => none
 | .mapUpdate t m i v | .insert t m i v => (mapOf P t).map fun k => .e (.mup k.1 m i v)
 | _ => none
def trG (ops : Array Oper) (o : Oper) : Option (Option (Nat × Bool)) :=
 match o.guard with
 | none => some none
 | some (j, want) => match (ops[j]?).bind (·.dst) with
  | some s => some (some (s, want))
  | none => none
def trOp (P : Program) (N : Nat) (ops : Array Oper) (o : Oper) : Option AOp :=
 match trK P o.op, trG ops o with
 | some k, some g => match o.dst with
  | some d => if d < N then some ⟨some d, g, k⟩ else none
  | none => some ⟨none, g, k⟩
 | _, _ => none
def edgesOf (o : Oper) : List Nat := (o.after.toList.filter (Region.binds .any)).map (·.on)
def trC (P : Program) (N : Nat) : Code → Option ACode
 | .skip => some .skip
 | .ret => some .ret
 | .exit id => some (.exit id)
 | .seq a b => match trC P N a, trC P N b with
  | some x, some y => some (.seq [] x y)
  | _, _ => none
 | .cond c a b => match trC P N a, trC P N b with
  | some x, some y => some (.cond c x y)
  | _, _ => none
 | .block id a => match trC P N a with
  | some x => some (.block id x)
  | none => none
 | .loop a => match trC P N a with
  | some x => some (.loop x)
  | none => none
 | .scope a => match trC P N a with
  | some x => some (.scp x)
  | none => none
 | .label _ => some .lab
 | .region _ ops false => match ops.toList.mapM (trOp P N ops) with
  | some l => some (.reg l)
  | none => none
 | .region _ ops true => match ops.toList.mapM (trOp P N ops) with
  | some l => some (.dreg l (ops.toList.map edgesOf) [])
  | none => none
 | _ => none
def EK.bare : EK → EK
 | .bxr x => .box x
 | .bsr len cells parts => .bsl len cells parts
 | k => k
def K.bare : K → K
 | .e k => .e k.bare
 | k => k
def AOp.bare (o : AOp) : AOp := ⟨o.d, o.g, o.k.bare⟩
def ACode.bare : ACode → ACode
 | .seq _ a b => .seq [] a.bare b.bare
 | .cond c a b => .cond c a.bare b.bare
 | .block id a => .block id a.bare
 | .loop a => .loop a.bare
 | .fz _ a | .wk _ a => a.bare
 | .scp a => .scp a.bare
 | .reg ops => .reg (ops.map AOp.bare)
 | .dreg ops es _ | .dregt ops es _ => .dreg (ops.map AOp.bare) es []
 | c => c
end Go.Ab
end
section
namespace Go.Ab
section
variable {P : Program} {G : Glo} {w : World} {O : Nat → Prop}
theorem rep_int {k : IntKind} {n : Int} {c : Value} (h : Rep w O (.int k n) c) : c = .int k n := by cases h; rfl
theorem rep_bool {b : Bool} {c : Value} (h : Rep w O (.bool b) c) : c = .bool b := by cases h; rfl
theorem rep_str {s : ByteArray} {c : Value} (h : Rep w O (.str s) c) : c = .string s := by cases h; rfl
theorem rep_ptr {b o : Nat} {c : Value} (h : Rep w O (.ptr b o) c) : c = .pointer (some ⟨b, o, none⟩) := by cases h; rfl
theorem rep_ptrC {b o : Nat} {c : Value} (h : Rep w O (.ptr b o) c) : isC w b := by cases h; assumption
theorem rep_slC {b o n m : Nat} {c : Value} (h : Rep w O (.sl b o n m) c) (hn : ¬ (n = 0 ∧ m = 0)) : isC w b := by
 cases h with
 | sl _ _ _ _ hlc hk => exact hk
 | sl0 _ _ a => exact absurd ⟨rfl, rfl⟩ hn
theorem rep_mpp {r : Option Nat} {c : Value} (h : Rep w O (.mpp r) c) : c = .map r := by cases h; rfl
theorem rep_yl {l : Nat} {c : Value} (h : Rep w O (.yl l) c) : c = .func (.yield l) #[] #[] := by cases h; rfl
theorem rep_nilp {c : Value} (h : Rep w O .nilp c) : c = .pointer none := by cases h; rfl
theorem rep_nils {c : Value} (h : Rep w O .nils c) : c = .slice none 0 0 := by cases h; rfl
theorem rep_sl {b o n m : Nat} {c : Value} (h : Rep w O (.sl b o n m) c) : ∃ a, c = .slice (some a) n m ∧ n ≤ m ∧ ((n = 0 ∧ m = 0) ∨ a = ⟨b, o, none⟩) := by
 cases h with
 | sl _ _ _ _ hlc _ => exact ⟨_, rfl, hlc, .inr rfl⟩
 | sl0 _ _ a => exact ⟨a, rfl, Nat.le_refl _, .inl ⟨rfl, rfl⟩⟩
theorem rep_cp {cells : List AV} {off : Nat} {c : Value} (h : Rep w O (.cp cells off) c) :
  ∃ (b o : Nat) (cs : Nat → Value), c = .pointer (some ⟨b, o + off, none⟩) ∧ b < w.heap.size ∧ ¬ O b ∧
   (∀ i v, cells[i]? = some v → w.cell? ⟨b, o + i, none⟩ = some (cs i) ∧ (cs i).oneCell' = true) ∧ (∀ i v, cells[i]? = some v → Rep w O v (cs i)) := by
 cases h with
 | cp _ _ b o cs hb hO hc hr => exact ⟨b, o, cs, rfl, hb, hO, hc, hr⟩
theorem rep_agg {cells : List AV} {c : Value} (h : Rep w O (.agg cells) c) :
  ∃ cs : Array Value, c = .agg cs ∧ cells.length = cs.size ∧ (∀ (i : Nat) (c : Value), cs[i]? = some c → c.oneCell' = true) ∧
   (∀ (i : Nat) (v : AV) (c : Value), cells[i]? = some v → cs[i]? = some c → Rep w O v c) := by
 cases h with
 | agg _ cs hl h1 hr => exact ⟨cs, rfl, hl, h1, hr⟩
theorem rep_tup {vs : List AV} {c : Value} (h : Rep w O (.tup vs) c) :
  ∃ cs : Array Value, c = .tuple cs ∧ vs.length = cs.size ∧ (∀ (i : Nat) (v : AV) (c : Value), vs[i]? = some v → cs[i]? = some c → Rep w O v c) := by
 cases h with
 | tup _ cs hl hr => exact ⟨cs, rfl, hl, hr⟩
theorem rep_fn {f : Nat} {first caps : List AV} {c : Value} (h : Rep w O (.fn f first caps) c) :
  ∃ as cs : Array Value, c = .func (.func f) as cs ∧ RepL w O first as.toList ∧ RepL w O caps cs.toList := by
 cases h with
 | fn _ _ _ as cs hl hl' hr hr' => exact ⟨as, cs, rfl, ⟨by simpa using hl, fun i a v ha hv => hr i a v ha (by simpa using hv)⟩, ⟨by simpa using hl', fun i a v ha hv => hr' i a v ha (by simpa using hv)⟩⟩
theorem rep_ro {cells : List AV} {len : Nat} {c : Value} (h : Rep w O (.ro cells len) c) :
  ∃ (a : Option Addr) (cap : Nat), c = .slice a len cap ∧ len ≤ cap ∧ ((cells = [] ∧ len = 0) ∨ ∃ (b o : Nat) (cs : Nat → Value), a = some ⟨b, o, none⟩ ∧ b < w.heap.size ∧ ¬ O b ∧
   (∀ i v, cells[i]? = some v → w.cell? ⟨b, o + i, none⟩ = some (cs i) ∧ (cs i).oneCell' = true) ∧ (∀ i v, cells[i]? = some v → Rep w O v (cs i))) := by
 cases h with
 | roe a cap => exact ⟨a, cap, rfl, Nat.zero_le _, .inl ⟨rfl, rfl⟩⟩
 | ro _ _ cap b o cs hlc hb hO hc hr => exact ⟨_, cap, rfl, hlc, .inr ⟨b, o, cs, rfl, hb, hO, hc, hr⟩⟩

theorem rep_ofV1 (v : Value) : Rep w O (ofV1 v) v := by
 unfold ofV1
 split <;> first | exact .int _ _ | exact .bool _ | exact .str _ | exact .nilp | exact .nils | exact .nilf | exact .mpp _ | exact .any _
theorem rep_ofV (v : Value) : Rep w O (ofV v) v := by
 unfold ofV
 split
 ·rename_i cs
  split
  ·rename_i h
   refine .agg _ cs (by simp) (fun i c hc => ?_) (fun i a c ha hc => ?_)
   ·exact List.all_eq_true.1 h c (Array.mem_toList_iff.2 (Array.mem_of_getElem? hc))
   ·have hc' : cs.toList[i]? = some c := by simpa using hc
    have : a = ofV1 c := by simpa [List.getElem?_map, hc'] using ha.symm
    rw [this]; exact rep_ofV1 c
  ·exact .any _
 ·exact rep_ofV1 _

def ERep (w : World) (O : Nat → Prop) (ρ : Env) (a : Act) : Prop := ∀ i, Rep w O (lk ρ i) (a.tmps.getD i undef)
theorem rep_xv {ρ : Env} {a : Act} (hg : GRep G w O) (he : ERep w O ρ a) (x : Operand) : Rep w O (xv G ρ x) (a.eval x) := by
 cases x with
 | tmp t => exact he t
 | const v => exact rep_ofV v
 | global g => exact hg.1 g
 | func f => exact .fn f [] [] #[] #[] rfl rfl (fun i v c h => by simp at h) (fun i v c h => by simp at h)
theorem ERep.keep {w' : World} {O' : Nat → Prop} {ρ : Env} {a : Act} (hk : Keeps w O w' O') (h : ERep w O ρ a) : ERep w' O' ρ a := fun i => (h i).keep hk
theorem lk_put (d : Option Nat) (v : AV) (ρ : Env) (i : Nat) : lk (put d v ρ) i = if d = some i then v else lk ρ i := by
 cases d with
 | none => simp [put]
 | some d =>
  simp only [put, lk]
  by_cases h : i = d
  ·subst h; simp
  ·have hb : (i == d) = false := by simpa using h
   simp [hb, Ne.symm h]
theorem ERep.put {ρ : Env} {a : Act} (h : ERep w O ρ a) {d : Option Nat} (hd : ∀ i, d = some i → i < a.tmps.size) {v : AV} {c : Value} (hv : Rep w O v c) :
  ERep w O (Ab.put d v ρ) (a.put d c) := by
 intro i
 rw [lk_put]
 cases d with
 | none => simpa [Act.put] using h i
 | some d =>
  by_cases hi : d = i
  ·subst hi
   have := hd d rfl
   simp [Act.put, Array.getD_eq_getD_getElem?, this]; exact hv
  ·simp only [Option.some.injEq, hi, if_false, Act.put]
   have h' := h i
   rw [Array.getD_eq_getD_getElem?, Array.getElem?_setIfInBounds_ne hi, ← Array.getD_eq_getD_getElem?]
   exact h'
theorem rep_undef : Rep w O (.tup []) undef := .tup [] #[] rfl (fun i v c h => by simp at h)
end

section types
variable {P : Program} {w : World}
theorem run_sz {t : TypeId} {n : Nat} (h : szOf P t = some n) : (sizeOf t).run P w = .ok n w := by
 unfold szOf at h
 cases hi : P.info? t with
 | none => simp [hi] at h
 | some i => simp [hi] at h; simp [sizeOf, run_typeInfo w hi, h]
theorem run_agg_of {t : TypeId} {d : TypeDesc} (h : P.underlying t = some d) :
  (isAgg t).run P w = .ok (match d with | .struct _ => true | .array _ _ => true | _ => false) w := by
 cases d <;> simp [isAgg, run_underlying h]
theorem run_shape_none {t : TypeId} (h : shapeOf P t = some none) : (isAgg t).run P w = .ok false w := by
 unfold shapeOf at h
 cases hu : P.underlying t with
 | none => simp [hu] at h
 | some d =>
  rw [run_agg_of hu]
  cases d <;> simp_all
theorem run_shape_some {t : TypeId} {n : Nat} (h : shapeOf P t = some (some n)) : (isAgg t).run P w = .ok true w ∧ (sizeOf t).run P w = .ok n w := by
 unfold shapeOf at h
 cases hu : P.underlying t with
 | none => simp [hu] at h
 | some d =>
  rw [run_agg_of hu]
  cases d <;> simp_all <;> exact run_sz h
end types

section memory
variable {P : Program} {w : World}
def At (w : World) (O : Nat → Prop) (b o : Nat) (cells : List AV) : Prop :=
 ∀ (i : Nat) (v : AV), cells[i]? = some v → ∃ cv, w.cell? ⟨b, o + i, none⟩ = some cv ∧ cv.oneCell' = true ∧ Rep w O v cv
theorem HRep.at {h : Heap} (hh : HRep w h) {b : Nat} {x : Blk} (hb : h b = some x) (hk : isC w b) : At w h.dom b 0 x.cells := by
 intro i v hv
 obtain ⟨c, t, hw, _, hc⟩ := hh.cells hb hk
 obtain ⟨cv, h1, h2, h3⟩ := hc i v hv
 exact ⟨cv, by simp [World.cell?, hw, h1], h2, h3⟩
theorem At.drop {O : Nat → Prop} {b o : Nat} {cells : List AV} (h : At w O b o cells) (k : Nat) : At w O b (o + k) (cells.drop k) := by
 intro i v hv
 obtain ⟨cv, h1, h2, h3⟩ := h (k + i) v (by simpa using hv)
 exact ⟨cv, by rw [Nat.add_assoc]; exact h1, h2, h3⟩
theorem At.take {O : Nat → Prop} {b o : Nat} {cells : List AV} (h : At w O b o cells) (k : Nat) : At w O b o (cells.take k) := by
 intro i v hv
 rw [List.getElem?_take] at hv
 split at hv
 ·exact h i v hv
 ·cases hv
theorem At.list {O : Nat → Prop} {b o : Nat} {cells : List AV} (h : At w O b o cells) :
  ∃ cs : List Value, cs.length = cells.length ∧ (∀ j v, cs[j]? = some v → w.cell? ⟨b, o + j, none⟩ = some v) ∧ (∀ v ∈ cs, v.oneCell' = true) ∧ RepL w O cells cs := by
 induction cells generalizing o with
 | nil => exact ⟨[], rfl, fun j v h => by simp at h, fun v h => by simp at h, .nil⟩
 | cons a r ih =>
  obtain ⟨cv, h1, h2, h3⟩ := h 0 a rfl
  obtain ⟨cs, e1, e2, e3, e4⟩ := ih (o := o + 1) (by simpa using h.drop 1)
  refine ⟨cv :: cs, by simp [e1], fun j v hv => ?_, fun v hv => ?_, e4.cons h3⟩
  ·cases j with
   | zero => simp at hv; subst hv; exact h1
   | succ j => simp at hv; have := e2 j v hv; rwa [show o + (j + 1) = o + 1 + j by omega]
  ·cases hv with
   | head => exact h2
   | tail _ hv => exact e3 v hv
theorem RepL.agg {O : Nat → Prop} {cells : List AV} {cs : List Value} (h : RepL w O cells cs) (h1 : ∀ v ∈ cs, v.oneCell' = true) : Rep w O (.agg cells) (.agg cs.toArray) :=
 .agg _ _ (by simp [h.1]) (fun i c hc => h1 c (List.mem_of_getElem? (by simpa using hc))) (fun i v c hv hc => h.2 i v c hv (by simpa using hc))
theorem At.loadCells {O : Nat → Prop} {b o : Nat} {cells : List AV} (h : At w O b o cells) :
  ∃ cs : List Value, cs.length = cells.length ∧ (loadCells ⟨b, o, none⟩ cells.length).run P w = .ok cs.toArray w ∧ (∀ v ∈ cs, v.oneCell' = true) ∧ RepL w O cells cs := by
 obtain ⟨cs, e1, e2, e3, e4⟩ := h.list
 refine ⟨cs, e1, ?_, e3, e4⟩
 rw [← e1]
 exact run_loadCells_list w _ cs fun j v hv => by rw [Addr.add_lit]; exact e2 j v hv
theorem At.part {O : Nat → Prop} {b o : Nat} {cells : List AV} (h : At w O b o cells) {off : Nat} {n : Option Nat} {v : AV} (hv : partOf cells off n = some v) {t : TypeId} (ht : shapeOf P t = some n) :
  ∃ c, (loadVar t ⟨b, o + off, none⟩).run P w = .ok c w ∧ Rep w O v c := by
 cases n with
 | none =>
  obtain ⟨cv, h1, _, h3⟩ := h off v hv
  exact ⟨cv, by simp [loadVar, run_shape_none ht, h1], h3⟩
 | some n =>
  simp only [partOf] at hv
  split at hv
  ·rename_i hle
   simp only [Option.some.injEq] at hv
   subst hv
   obtain ⟨ha, hs⟩ := run_shape_some (w := w) ht
   have hd := (h.drop off).take n
   have hlen : ((cells.drop off).take n).length = n := by simp; omega
   obtain ⟨cs, e1, e2, e3, e4⟩ := hd.loadCells (P := P)
   rw [hlen] at e2
   exact ⟨.agg cs.toArray, by simp [loadVar, ha, hs, e2], e4.agg e3⟩
  ·cases hv
theorem rep_cp_at {O : Nat → Prop} {cells : List AV} {off : Nat} {c : Value} (h : Rep w O (.cp cells off) c) :
  ∃ b o, c = .pointer (some ⟨b, o + off, none⟩) ∧ At w O b o cells := by
 obtain ⟨b, o, cs, hc, _, _, h1, h2⟩ := rep_cp h
 exact ⟨b, o, hc, fun i v hv => ⟨cs i, (h1 i v hv).1, (h1 i v hv).2, h2 i v hv⟩⟩
theorem ald_sound {h : Heap} (hh : HRep w h) {n : Option Nat} {a v : AV} (hv : ald h n a = some v) {c : Value} (hc : Rep w h.dom a c) {t : TypeId} (ht : shapeOf P t = some n) :
  ∃ c', (Instr.loadAt t c).run P w = .ok c' w ∧ Rep w h.dom v c' := by
 unfold ald at hv
 split at hv
 ·rename_i b o
  split at hv
  ·rename_i x hb
   have hk := rep_ptrC hc
   rw [rep_ptr hc]
   obtain ⟨c', h1, h2⟩ := (hh.at hb hk).part hv ht
   exact ⟨c', by simpa [Instr.loadAt, Instr.sureAddr] using h1, h2⟩
  ·cases hv
 ·rename_i cells o
  obtain ⟨b, o', hc', hat⟩ := rep_cp_at hc
  rw [hc']
  obtain ⟨c', h1, h2⟩ := hat.part hv ht
  exact ⟨c', by simpa [Instr.loadAt, Instr.sureAddr] using h1, h2⟩
 ·cases hv
theorem run_part_of {O : Nat → Prop} {cells : List AV} {c : Value} (h : Rep w O (.agg cells) c) {off : Nat} {n : Option Nat} {v : AV} (hv : partOf cells off n = some v) {t : TypeId} (ht : shapeOf P t = some n) :
  ∃ cs c', c = .agg cs ∧ (part t cs off).run P w = .ok c' w ∧ Rep w O v c' := by
 obtain ⟨cs, hc, hl, h1, hr⟩ := rep_agg h
 cases n with
 | none =>
  have hlt : off < cells.length := by
   unfold partOf at hv
   exact (List.getElem?_eq_some_iff.1 hv).1
  have hcs : cs[off]? = some cs[off] := Array.getElem?_eq_getElem (by omega)
  exact ⟨cs, cs[off], hc, by simp [part, run_shape_none ht, hcs], hr off v _ hv hcs⟩
 | some n =>
  simp only [partOf] at hv
  split at hv
  ·rename_i hle
   simp only [Option.some.injEq] at hv
   subst hv
   obtain ⟨ha, hs⟩ := run_shape_some (w := w) ht
   refine ⟨cs, .agg (cs.extract off (off + n)), hc, by simp [part, ha, hs], .agg _ _ ?_ ?_ ?_⟩
   ·simp; omega
   ·intro i c hc
    rw [Array.getElem?_extract] at hc
    split at hc
    ·exact h1 _ c hc
    ·cases hc
   ·intro i v c hv hc
    rw [Array.getElem?_extract] at hc
    rw [List.getElem?_take] at hv
    split at hc <;> split at hv
    ·exact hr (off + i) v c (by simpa using hv) hc
    all_goals first | cases hv | cases hc
  ·cases hv
end memory
end Go.Ab
end
section
namespace Go.Ab
section
variable {P : Program} {G : Glo} {w : World}
theorem abin_sound {op : BinOp} {x y v : AV} (hv : abin op x y = some v) {O : Nat → Prop} {c d : Value} (hx : Rep w O x c) (hy : Rep w O y d) (t : TypeId) :
  ∃ r, (binOp op t c d).run P w = .ok r w ∧ Rep w O v r := by
 unfold abin at hv
 split at hv
 ·rename_i k a k' b
  rw [rep_int hx, rep_int hy]
  split at hv
  case h_1 => 
   split at hv
   ·cases hv
   ·rename_i hb
    cases hv
    exact ⟨_, by simp [binOp, Op.shift, hb], .int _ _⟩
  case h_2 => 
   split at hv
   ·cases hv
   ·rename_i hb
    cases hv
    exact ⟨_, by simp [binOp, Op.shift, hb], .int _ _⟩
  case h_6 | h_7 =>
   split at hv
   ·rename_i hk
    subst hk
    split at hv
    ·cases hv
    ·rename_i hb
     cases hv
     exact ⟨_, by simp [binOp, Op.intDiv, hb], .int _ _⟩
   ·cases hv
  all_goals
   split at hv
   ·rename_i hk
    subst hk
    cases hv
    first
     | (refine ⟨_, ?_, .int _ _⟩; simp [binOp, Op.intArith]; done)
     | (refine ⟨_, ?_, .int _ _⟩; simp only [binOp, ne_eq, not_true_eq_false, if_false]; rfl)
     | (refine ⟨_, ?_, .bool _⟩; simp [binOp, Op.intCmp]; done)
   ·cases hv
 ·rename_i a b
  rw [rep_str hx, rep_str hy]
  split at hv
  ·split at hv
   ·rename_i hl
    cases hv
    refine ⟨_, ?_, .str _⟩
    have : ¬ (((a.size + b.size : Nat) : Int) > IntKind.i64.max) := by simp [IntKind.max, IntKind.signed, IntKind.bits]; omega
    simp only [binOp, Op.stringOp]
    rw [if_neg this]
    rfl
   ·cases hv
  all_goals first
   | (cases hv; exact ⟨_, by simp [binOp, Op.stringOp], .bool _⟩)
   | cases hv
 ·cases hv
theorem guard_int {op : BinOp} {t : TypeId} {x y : Operand} {c d : Value} (h : (∃ k n, c = .int k n) ∨ ∃ s, c = .string s) : (eqGuard op t x y c d).run P w = .ok () w := by
 rcases h with ⟨k, n, rfl⟩ | ⟨s, rfl⟩ <;> (unfold eqGuard; cases op <;> simp <;> rfl)
theorem abin_left {op : BinOp} {x y v : AV} (hv : abin op x y = some v) {O : Nat → Prop} {c : Value} (hx : Rep w O x c) : (∃ k n, c = .int k n) ∨ ∃ s, c = .string s := by
 unfold abin at hv
 split at hv
 ·exact .inl ⟨_, _, rep_int hx⟩
 ·exact .inr ⟨_, rep_str hx⟩
 ·cases hv
theorem foldl_set : ∀ (vs : List Value) (k off : Nat) (cs : Array Value),
  ((vs.zipIdx k).foldl (fun cs (x : Value × Nat) => cs.setIfInBounds (off + x.2) x.1) cs).size = cs.size ∧
  (off + k + vs.length ≤ cs.size → ∀ i : Nat, ((vs.zipIdx k).foldl (fun cs (x : Value × Nat) => cs.setIfInBounds (off + x.2) x.1) cs)[i]? =
   if off + k ≤ i ∧ i < off + k + vs.length then vs[i - (off + k)]? else cs[i]?) := by
 intro vs
 induction vs with
 | nil => intro k off cs; exact ⟨rfl, fun _ i => by rw [if_neg (by simp)]; rfl⟩
 | cons v r ih =>
  intro k off cs
  obtain ⟨h1, h2⟩ := ih (k + 1) off (cs.setIfInBounds (off + k) v)
  simp only [List.zipIdx_cons, List.foldl_cons]
  refine ⟨by rw [h1]; simp, fun hle i => ?_⟩
  simp only [List.length_cons] at hle
  rw [h2 (by simp; omega) i]
  by_cases e : i = off + k
  ·subst e
   have hlt : off + k < cs.size := by clear h2; omega
   rw [if_neg (by omega), if_pos (by simp only [List.length_cons]; omega)]
   simp [hlt]
  ·by_cases hi : off + (k + 1) ≤ i ∧ i < off + (k + 1) + r.length
   ·rw [if_pos hi, if_pos (by simp only [List.length_cons]; omega)]
    obtain ⟨j, hj⟩ : ∃ j, i - (off + k) = j + 1 := ⟨i - (off + k) - 1, by omega⟩
    rw [hj, List.getElem?_cons_succ]
    congr 1
    omega
   ·rw [if_neg hi, if_neg (by simp only [List.length_cons]; omega), Array.getElem?_setIfInBounds_ne (Ne.symm e)]
theorem splice_length {cells new : List AV} {off : Nat} (h : off + new.length ≤ cells.length) : (splice cells off new).length = cells.length := by
 unfold splice
 split
 ·simp
 ·simp; omega
theorem splice_get {cells new : List AV} {off : Nat} (h : off + new.length ≤ cells.length) (i : Nat) :
  (splice cells off new)[i]? = if off ≤ i ∧ i < off + new.length then new[i - off]? else cells[i]? := by
 unfold splice
 split
 ·rename_i v
  simp only [List.length_cons, List.length_nil] at h
  by_cases e : i = off
  ·subst e
   rw [if_pos (by simp), List.getElem?_set_self (by omega)]
   simp
  ·rw [if_neg (by simp only [List.length_cons, List.length_nil]; omega), List.getElem?_set_ne (Ne.symm e)]
 ·by_cases hi : off ≤ i ∧ i < off + new.length
  ·rw [if_pos hi, List.getElem?_append_left (by simp; omega), List.getElem?_append_right (by simp; omega)]
   congr 1
   simp; omega
  ·rw [if_neg hi]
   by_cases hlt : i < off
   ·rw [List.getElem?_append_left (by simp; omega), List.getElem?_append_left (by simp; omega), List.getElem?_take, if_pos hlt]
   ·rw [List.getElem?_append_right (by simp; omega), List.getElem?_drop]
    congr 1
    simp; omega
theorem cellsOf_rep {O : Nat → Prop} {v : AV} {c : Value} (h : Rep w O v c) {cs : List AV} (hc : cellsOf v = some cs) :
  RepL w O cs c.cells.toList ∧ ∀ x ∈ c.cells.toList, x.oneCell' = true := by
 have one : ∀ {v : AV} {c : Value}, Rep w O v c → c.cells = #[c] → c.oneCell' = true → RepL w O [v] c.cells.toList ∧ ∀ x ∈ c.cells.toList, x.oneCell' = true := by
  intro v c h h1 h2
  rw [h1]
  exact ⟨RepL.nil.cons h, by simpa using h2⟩
 cases h with
 | any _ => cases hc
 | tup _ _ _ _ => cases hc
 | agg cells as hl h1 hr =>
  simp only [cellsOf, Option.some.injEq] at hc
  subst hc
  refine ⟨⟨by simpa [Value.cells] using hl, fun i a v ha hv => hr i a v ha (by simpa [Value.cells] using hv)⟩, fun x hx => ?_⟩
  obtain ⟨i, hi⟩ := List.mem_iff_getElem?.1 hx
  exact h1 i x (by simpa [Value.cells] using hi)
 | int k n => cases hc; exact one (.int k n) rfl rfl
 | bool b => cases hc; exact one (.bool b) rfl rfl
 | str s => cases hc; exact one (.str s) rfl rfl
 | nilp => cases hc; exact one .nilp rfl rfl
 | ptr b o hk => cases hc; exact one (.ptr b o hk) rfl rfl
 | mpp r => cases hc; exact one (.mpp r) rfl rfl
 | yl l => cases hc; exact one (.yl l) rfl rfl
 | cp cells off b o cs hb hO hc' hr => cases hc; exact one (.cp cells off b o cs hb hO hc' hr) rfl rfl
 | nils => cases hc; exact one .nils rfl rfl
 | sl b off len cap hlc hk => cases hc; exact one (.sl b off len cap hlc hk) rfl rfl
 | sl0 b off a => cases hc; exact one (.sl0 b off a) rfl rfl
 | roe a cap => cases hc; exact one (.roe a cap) rfl rfl
 | ro cells len cap b o cs hlc hb hO hc' hr => cases hc; exact one (.ro cells len cap b o cs hlc hb hO hc' hr) rfl rfl
 | fn f first caps as cs hl hl' hr hr' => cases hc; exact one (.fn f first caps as cs hl hl' hr hr') rfl rfl
 | nilf => cases hc; exact one .nilf rfl rfl
theorem fill_one {O : Nat → Prop} {cells cs : List AV} {arr : Array Value} {c : Value} {off : Nat} (hc : Rep w O (.agg cells) (.agg arr)) (hr : RepL w O cs c.cells.toList) (h1 : ∀ x ∈ c.cells.toList, x.oneCell' = true)
  (hle : off + cs.length ≤ cells.length) : Rep w O (.agg (splice cells off cs)) (.agg (c.cells.zipIdx.foldl (fun cs (x : Value × Nat) => cs.setIfInBounds (off + x.2) x.1) arr)) := by
 obtain ⟨arr', he, hl, ha1, har⟩ := rep_agg hc
 cases he
 have hlen : cs.length = c.cells.toList.length := hr.1
 have hfold : c.cells.zipIdx.foldl (fun cs (x : Value × Nat) => cs.setIfInBounds (off + x.2) x.1) arr =
   (c.cells.toList.zipIdx 0).foldl (fun cs (x : Value × Nat) => cs.setIfInBounds (off + x.2) x.1) arr := by
  rw [← Array.foldl_toList]; simp
 rw [hfold]
 obtain ⟨f1, f2⟩ := foldl_set c.cells.toList 0 off arr
 have f3 := f2 (by omega)
 refine .agg _ _ (by rw [splice_length hle, f1, hl]) ?_ ?_
 ·intro i x hx
  rw [f3 i] at hx
  split at hx
  ·exact h1 x (List.mem_of_getElem? hx)
  ·exact ha1 i x hx
 ·intro i v x hv hx
  rw [f3 i] at hx
  rw [splice_get hle] at hv
  simp only [Nat.add_zero] at hx
  split at hv
  ·rename_i hi
   rw [if_pos (by omega)] at hx
   exact hr.2 _ v x hv hx
  ·rename_i hi
   rw [if_neg (by omega)] at hx
   exact har i v x hv hx
theorem afill_sound {O : Nat → Prop} {ρ : Env} {a : Act} {place : Nat → Option (Nat × Nat)} :
  ∀ (parts : List (Nat × Operand)) (ps : List (Nat × Nat × Operand)) (cells : List AV) (cs : Array Value) (out : List AV),
   parts.length = ps.length → (∀ (j : Nat) i x off n y, parts[j]? = some (i, x) → ps[j]? = some (off, n, y) → place i = some (off, n) ∧ y = x) →
   (∀ p ∈ parts, Rep w O (xv G ρ p.2) (a.eval p.2)) → Rep w O (.agg cells) (.agg cs) → afill (xv G ρ) cells ps = some out →
   ∃ cs' : Array Value, Instr.fill place cs (parts.map fun (i, x) => (i, a.eval x)) = some cs' ∧ Rep w O (.agg out) (.agg cs') := by
 intro parts
 induction parts with
 | nil =>
  intro ps cells cs out hl _ _ hc ho
  cases ps with
  | nil => simp [afill] at ho; subst ho; exact ⟨cs, by simp [Instr.fill], hc⟩
  | cons p r => simp at hl
 | cons p r ih =>
  intro ps cells cs out hl hp hx hc ho
  cases ps with
  | nil => simp at hl
  | cons q s =>
   obtain ⟨i, x⟩ := p
   obtain ⟨off, n, y⟩ := q
   obtain ⟨hpl, hyx⟩ := hp 0 i x off n y rfl rfl
   subst hyx
   have hrx := hx (i, y) (by simp)
   simp only [afill] at ho
   split at ho
   ·rename_i vs hvs
    split at ho
    ·rename_i hn
     obtain ⟨hr, h1⟩ := cellsOf_rep hrx hvs
     have hstep := fill_one (off := off) hc hr h1 (by omega)
     obtain ⟨arr', he, hl', _, _⟩ := rep_agg hc
     cases he
     obtain ⟨cs', hf, hout⟩ := ih s _ _ out (by simpa using hl) (fun j i x off n y h1 h2 => hp (j + 1) i x off n y (by simpa using h1) (by simpa using h2))
      (fun p hp' => hx p (by simp [hp'])) hstep ho
     refine ⟨cs', ?_, hout⟩
     simp only [List.map_cons, Instr.fill, hpl]
     have hsz : (a.eval y).cells.size = n := by have := hr.1; simp at this; omega
     rw [if_neg (by simp [hsz]; omega)]
     exact hf
    ·cases ho
   ·cases ho
end
end Go.Ab
end
section
namespace Go.Ab
section
variable {P : Program} {w : World} {O : Nat → Prop}
theorem cellsEq_append : ∀ (ks ls : List CK) (a b c d : List AV) (t : Bool), a.length = ks.length → b.length = ks.length → cellsEq (ks ++ ls) (a ++ c) (b ++ d) = some t →
    ∃ t1 t2, cellsEq ks a b = some t1 ∧ cellsEq ls c d = some t2 ∧ t = (t1 && t2) := by
  intro ks
  induction ks with
  | nil =>
    intro ls a b c d t ha hb h
    cases a with
    | nil => cases b with
      | nil => exact ⟨true, t, rfl, h, by simp⟩
      | cons _ _ => simp at hb
    | cons _ _ => simp at ha
  | cons k ks ih =>
    intro ls a b c d t ha hb h
    cases a with
    | nil => simp at ha
    | cons x r =>
      cases b with
      | nil => simp at hb
      | cons y s =>
        have ha' : r.length = ks.length := by simpa using ha
        have hb' : s.length = ks.length := by simpa using hb
        simp only [List.cons_append] at h
        cases k <;> cases x <;> (try (simp only [cellsEq] at h; done)) <;> cases y <;> simp only [cellsEq] at h ⊢ <;> (try cases h) <;> (try split at h) <;> (try cases h) <;>
          (obtain ⟨u, hu, rfl⟩ := Option.map_eq_some_iff.1 h
           obtain ⟨t1, t2, h1, h2, rfl⟩ := ih ls r s c d u ha' hb' hu
           refine ⟨_, t2, ?_, h2, (Bool.and_assoc _ _ _).symm⟩
           simp [*])
theorem cellsEq_length : ∀ (ks : List CK) (a b : List AV) (t : Bool), cellsEq ks a b = some t → a.length = ks.length ∧ b.length = ks.length := by
 intro ks
 induction ks with
 | nil =>
  intro a b t h
  cases a <;> cases b <;> simp_all [cellsEq]
 | cons k ks ih =>
  intro a b t h
  cases a with
  | nil => cases k <;> simp [cellsEq] at h
  | cons x r =>
   cases b with
   | nil => cases k <;> cases x <;> simp [cellsEq] at h
   | cons y s =>
    have key : ∃ u, cellsEq ks r s = some u := by
     cases k <;> cases x <;> (try (simp [cellsEq] at h; done)) <;> cases y <;> simp only [cellsEq] at h <;> (try cases h) <;> (try split at h) <;> (try cases h) <;>
      (obtain ⟨u, hu, rfl⟩ := Option.map_eq_some_iff.1 h; exact ⟨u, hu⟩)
    obtain ⟨u, hu⟩ := key
    obtain ⟨h1, h2⟩ := ih r s u hu
    simp [h1, h2]
def Arr (w : World) (O : Nat → Prop) (xs : List AV) (cx : Array Value) : Prop := xs.length = cx.size ∧ ∀ (i : Nat) (v : AV) (c : Value), xs[i]? = some v → cx[i]? = some c → Rep w O v c
theorem Arr.extract {xs : List AV} {cx : Array Value} (h : Arr w O xs cx) (off n : Nat) : Arr w O ((xs.drop off).take n) (cx.extract off (off + n)) := by
 refine ⟨by simp [h.1]; omega, fun i v c hv hc => ?_⟩
 rw [Array.getElem?_extract] at hc
 rw [List.getElem?_take] at hv
 split at hc <;> split at hv
 ·exact h.2 (off + i) v c (by simpa using hv) hc
 all_goals first | cases hv | cases hc
theorem shape_of_flat {d : Nat} {t : TypeId} {n : List CK} (h : flat P d t = some n) :
    (((P.underlying t = some .bool ∧ n = [.b]) ∨ (P.underlying t = some .string ∧ n = [.s]) ∨ (∃ k, P.underlying t = some (.int k) ∧ n = [.i])) ∧ (isAgg t).run P w = .ok false w) ∨
    ((isAgg t).run P w = .ok true w ∧ (sizeOf t).run P w = .ok n.length w ∧ ∃ e d', d = d' + 1 ∧
      ((∃ fs, P.underlying t = some (.struct fs) ∧ flatFields P (flat P d') [] fs.toList = some n ∧ P.stoodInHeld t = false) ∨
       (∃ k m, P.underlying t = some (.array k e) ∧ flat P d' e = some m ∧ szOf P e = some m.length ∧ n = (List.replicate k m).flatten))) := by
  cases d with
  | zero => simp [flat] at h
  | succ d =>
    cases hu : P.underlying t with
    | none => simp [flat, hu] at h
    | some u =>
      have ha := run_agg_of (P := P) (w := w) hu
      cases u <;> simp only [flat, hu] at h <;> try (simp at h; done)
      case bool => simp at h; subst h; exact .inl ⟨.inl ⟨rfl, rfl⟩, ha⟩
      case int k => simp at h; subst h; exact .inl ⟨.inr (.inr ⟨k, rfl, rfl⟩), ha⟩
      case string => simp at h; subst h; exact .inl ⟨.inr (.inl ⟨rfl, rfl⟩), ha⟩
      case struct fs =>
        split at h
        · rename_i m hm
          split at h
          · rename_i hc
            simp at h; subst h
            exact .inr ⟨ha, run_sz hc.1, t, d, rfl, .inl ⟨fs, rfl, hm, hc.2⟩⟩
          · simp at h
        · simp at h
      case array k e =>
        split at h
        · rename_i m hm
          split at h
          · rename_i hc
            simp at h; subst h
            exact .inr ⟨ha, by simpa [List.length_flatten] using run_sz hc.2, e, d, rfl, .inr ⟨k, m, rfl, hm, hc.1, rfl⟩⟩
          · simp at h
        · simp at h
def eqElems (D : Nat) (e : TypeId) (n : Nat) (xs ys : Array Value) : List Nat → Sem Bool
 | [] => pure true
 | i :: r => do
  let a ← part e xs (i * n)
  let b ← part e ys (i * n)
  let t ← Op.equalIn D e a b
  if (!t) = true then pure false else eqElems D e n xs ys r
theorem run_equalIn_array (D : Nat) (t e : TypeId) (k n : Nat) (xs ys : Array Value) (ht : P.underlying t = some (.array k e)) (hs : szOf P e = some n) :
  (Op.equalIn (D + 1) t (.agg xs) (.agg ys)).run P w = (eqElems D e n xs ys (List.range k)).run P w := by
 simp only [Op.equalIn, Sem.run_bind, run_underlying ht, Result.andThen_ok, run_sz hs]
 have hl : List.range' 0 k 1 = List.range k := by rw [List.range_eq_range']
 simp only [Std.Legacy.Range.forIn_eq_forIn_range', Std.Legacy.Range.size, Nat.sub_zero, Nat.add_sub_cancel, Nat.div_one, hl]
 generalize List.range k = l
 induction l generalizing w with
 | nil => simp [eqElems]
 | cons i r ih =>
  simp only [List.forIn_cons, eqElems, Sem.run_bind]
  generalize (part e xs (i * n)).run P w = r1
  cases r1 with
  | ok a w1 =>
   simp only [Result.andThen_ok]
   generalize (part e ys (i * n)).run P w1 = r2
   cases r2 with
   | ok b w2 =>
    simp only [Result.andThen_ok]
    generalize (Op.equalIn D e a b).run P w2 = r3
    cases r3 with
    | ok r w3 =>
     cases r
     ·simp
     ·simp only [Result.andThen_ok, Bool.not_true, Bool.false_eq_true, if_false, Sem.run_pure]
      exact ih
    | halt x w3 => simp [Result.andThen]
   | halt x w2 => simp [Result.andThen]
  | halt x w1 => simp [Result.andThen]
theorem flatFields_prefix (rec : TypeId → Option (List CK)) : ∀ (fs : List Field) (n out : List CK), flatFields P rec n fs = some out → ∃ r, out = n ++ r := by
 intro fs
 induction fs with
 | nil => intro n out h; simp [flatFields] at h; exact ⟨[], by simp [h]⟩
 | cons f fs ih =>
  intro n out h
  simp only [flatFields] at h
  split at h
  ·split at h
   ·obtain ⟨r, hr⟩ := ih _ _ h
    exact ⟨_, by rw [hr, List.append_assoc]⟩
   ·cases h
  ·cases h
theorem eq_flat : ∀ (d : Nat) (t : TypeId) (n : List CK), flat P d t = some n → ∀ (D : Nat), d ≤ D → ∀ (off : Nat) (xs ys : List AV) (cx cy : Array Value) (b : Bool),
  Arr w O xs cx → Arr w O ys cy → cellsEq n ((xs.drop off).take n.length) ((ys.drop off).take n.length) = some b →
  ∃ vx vy, (part t cx off).run P w = .ok vx w ∧ (part t cy off).run P w = .ok vy w ∧ (Op.equalIn D t vx vy).run P w = .ok b w := by
 intro d
 induction d with
 | zero => intro t n h; simp [flat] at h
 | succ d ih =>
  intro t n hfl D hD off xs ys cx cy b hx hy he
  obtain ⟨D, rfl⟩ : ∃ D', D = D' + 1 := ⟨D - 1, by omega⟩
  obtain ⟨l1, l2⟩ := cellsEq_length _ _ _ _ he
  rcases shape_of_flat (w := w) hfl with ⟨hs, ha⟩ | ⟨ha, hsz, e, d', hd, hs⟩
  ·have hn : n.length = 1 := by rcases hs with ⟨_, rfl⟩ | ⟨_, rfl⟩ | ⟨_, _, rfl⟩ <;> rfl
   rw [hn] at l1 l2 he
   have hox : off < xs.length := by simp at l1; omega
   have hoy : off < ys.length := by simp at l2; omega
   have e1 : (xs.drop off).take 1 = [xs[off]] := by rw [List.drop_eq_getElem_cons hox]; rfl
   have e2 : (ys.drop off).take 1 = [ys[off]] := by rw [List.drop_eq_getElem_cons hoy]; rfl
   have hcx : cx[off]? = some (cx[off]'(by have := hx.1; omega)) := Array.getElem?_eq_getElem _
   have hcy : cy[off]? = some (cy[off]'(by have := hy.1; omega)) := Array.getElem?_eq_getElem _
   have rx := hx.2 off _ _ (List.getElem?_eq_getElem hox) hcx
   have ry := hy.2 off _ _ (List.getElem?_eq_getElem hoy) hcy
   rw [e1, e2] at he
   refine ⟨_, _, by simp [part, ha, hcx]; rfl, by simp [part, ha, hcy]; rfl, ?_⟩
   generalize xs[off] = x at he rx
   generalize ys[off] = y at he ry
   rcases hs with ⟨hu, rfl⟩ | ⟨hu, rfl⟩ | ⟨k, hu, rfl⟩
   ·cases x <;> cases y <;> simp [cellsEq] at he
    subst he
    rw [rep_bool rx, rep_bool ry]
    exact run_equalIn_bool' w D t _ _ hu
   ·cases x <;> cases y <;> simp [cellsEq] at he
    subst he
    rw [rep_str rx, rep_str ry, run_equalIn_string w D t _ _ hu, beq_toListBytes]
   ·cases x <;> cases y <;> simp [cellsEq] at he
    obtain ⟨rfl, rfl⟩ := he
    rw [rep_int rx, rep_int ry]
    exact run_equalIn_int w D t _ _ _ _ hu
  ·obtain rfl : d = d' := by omega
   have hX := hx.extract off n.length
   have hY := hy.extract off n.length
   refine ⟨.agg (cx.extract off (off + n.length)), .agg (cy.extract off (off + n.length)), by simp [part, ha, hsz], by simp [part, ha, hsz], ?_⟩
   generalize (xs.drop off).take n.length = X at *
   generalize (ys.drop off).take n.length = Y at *
   generalize cx.extract off (off + n.length) = CX at *
   generalize cy.extract off (off + n.length) = CY at *
   rcases hs with ⟨fs, hu, hff, hst⟩ | ⟨k, m, hu, hm, hme, rfl⟩
   ·have hfo : P.fieldsOf t = fs := by simp [Program.fieldsOf, hu]
    rw [run_equalIn_struct w D t CX CY (by rw [hfo]; exact hu) hst, hfo]
    have key : ∀ (l : List Field) (pre out : List CK) (b : Bool), flatFields P (flat P d) pre l = some out → cellsEq (out.drop pre.length) (X.drop pre.length) (Y.drop pre.length) = some b →
      (Op.eqFields D CX CY l).run P w = .ok b w := by
     intro l
     induction l with
     | nil =>
      intro pre out b h1 h2
      simp [flatFields] at h1
      subst h1
      obtain ⟨z1, z2⟩ := cellsEq_length _ _ _ _ h2
      simp only [List.drop_length, List.length_nil] at z1 z2 h2
      rw [List.eq_nil_of_length_eq_zero z1, List.eq_nil_of_length_eq_zero z2] at h2
      simp [cellsEq] at h2
      subst h2
      simp [Op.eqFields]
     | cons f l ihl =>
      intro pre out b h1 h2
      simp only [flatFields] at h1
      split at h1
      ·rename_i m hm
       split at h1
       ·rename_i hc
        obtain ⟨r, hr⟩ := flatFields_prefix _ _ _ _ h1
        have eo : out.drop pre.length = m ++ r := by rw [hr]; simp
        rw [eo] at h2
        obtain ⟨z1, z2⟩ := cellsEq_length _ _ _ _ h2
        simp only [List.length_append] at z1 z2
        rw [← List.take_append_drop m.length (X.drop pre.length), ← List.take_append_drop m.length (Y.drop pre.length)] at h2
        obtain ⟨t1, t2, q1, q2, rfl⟩ := cellsEq_append m r _ _ _ _ _ (by simp at z1 ⊢; omega) (by simp at z2 ⊢; omega) h2
        obtain ⟨vx, vy, p1, p2, p3⟩ := ih f.type m hm D (by omega) f.offset X Y CX CY t1 hX hY (by rw [hc.2.1]; exact q1)
        have hrest := ihl (pre ++ m) out t2 h1 (by
         have : out.drop (pre ++ m).length = r := by rw [hr, List.drop_left]
         rw [this]
         simpa [List.drop_drop] using q2)
        simp only [Op.eqFields, if_pos hc.1, Sem.run_bind, p1, p2, p3, Result.andThen_ok, Sem.run_ite]
        cases t1
        ·simp
        ·simpa using hrest
       ·cases h1
      ·cases h1
    exact key fs.toList [] n b hff (by simpa using he)
   ·rw [run_equalIn_array D t e k m.length CX CY hu hme]
    have key : ∀ (c i : Nat) (b : Bool), cellsEq ((List.replicate c m).flatten) (X.drop (i * m.length)) (Y.drop (i * m.length)) = some b →
      (eqElems D e m.length CX CY (List.range' i c)).run P w = .ok b w := by
     intro c
     induction c with
     | zero =>
      intro i b h2
      obtain ⟨z1, z2⟩ := cellsEq_length _ _ _ _ h2
      simp only [List.replicate_zero, List.flatten_nil, List.length_nil] at z1 z2 h2
      rw [List.eq_nil_of_length_eq_zero z1, List.eq_nil_of_length_eq_zero z2] at h2
      simp [cellsEq] at h2
      subst h2
      simp [eqElems]
     | succ c ihc =>
      intro i b h2
      rw [List.replicate_succ, List.flatten_cons] at h2
      obtain ⟨z1, z2⟩ := cellsEq_length _ _ _ _ h2
      simp only [List.length_append] at z1 z2
      rw [← List.take_append_drop m.length (X.drop (i * m.length)), ← List.take_append_drop m.length (Y.drop (i * m.length))] at h2
      obtain ⟨t1, t2, q1, q2, rfl⟩ := cellsEq_append m _ _ _ _ _ _ (by simp at z1 ⊢; omega) (by simp at z2 ⊢; omega) h2
      obtain ⟨vx, vy, p1, p2, p3⟩ := ih e m hm D (by omega) (i * m.length) X Y CX CY t1 hX hY q1
      have hrest := ihc (i + 1) t2 (by simpa [List.drop_drop, Nat.succ_mul] using q2)
      rw [List.range'_succ]
      simp only [eqElems, Sem.run_bind, p1, p2, p3, Result.andThen_ok, Sem.run_ite]
      cases t1
      ·simp
      ·simpa using hrest
    have := key k 0 b (by simpa using he)
    rwa [← List.range_eq_range'] at this
theorem aeq_sound {t : TypeId} {ks : List CK} (hf : flat P 50 t = some ks) (hg : P.eqGuardType P.depth t = false) {neg : Bool} {x y v : AV} (hv : aeq neg ks x y = some v) {c d : Value}
  (hx : Rep w O x c) (hy : Rep w O y d) (o1 o2 : Operand) (hagg : (isAgg t).run P w = .ok true w) :
  ∃ r, (do eqGuard (if neg then .neq else .eql) t o1 o2 c d; binOp (if neg then .neq else .eql) t c d : Sem Value).run P w = .ok r w ∧ Rep w O v r := by
 unfold aeq at hv
 split at hv
 ·rename_i xs ys
  obtain ⟨b, hb, rfl⟩ := Option.map_eq_some_iff.1 hv
  obtain ⟨cx, rfl, lx, _, rx⟩ := rep_agg hx
  obtain ⟨cy, rfl, ly, _, ry⟩ := rep_agg hy
  obtain ⟨z1, z2⟩ := cellsEq_length _ _ _ _ hb
  obtain ⟨vx, vy, p1, p2, p3⟩ := eq_flat 50 t ks hf 10000 (by omega) 0 xs ys cx cy b ⟨lx, rx⟩ ⟨ly, ry⟩ (by simpa [List.take_of_length_le, z1, z2] using hb)
  rcases shape_of_flat (w := w) hf with ⟨_, ha⟩ | ⟨_, hsz, _⟩
  ·rw [ha] at hagg; cases hagg
  ·have ex : cx.extract 0 (0 + ks.length) = cx := by rw [Nat.zero_add, ← z1, lx, Array.extract_size]
   have ey : cy.extract 0 (0 + ks.length) = cy := by rw [Nat.zero_add, ← z2, ly, Array.extract_size]
   simp only [part, Sem.run_bind, hagg, Result.andThen_ok, hsz, ex, if_true, Sem.run_pure, Result.ok.injEq, and_true] at p1
   simp only [part, Sem.run_bind, hagg, Result.andThen_ok, hsz, ey, if_true, Sem.run_pure, Result.ok.injEq, and_true] at p2
   subst p1
   subst p2
   cases neg
   ·exact ⟨.bool b, by simp only [Bool.false_eq_true, if_false, Sem.run_bind, run_eqGuard_agg w _ _ _ _ _ _ hg, Result.andThen_ok, run_eql_struct, p3], by simpa using Rep.bool b⟩
   ·exact ⟨.bool (!b), by simp only [if_true, Sem.run_bind, run_eqGuard_agg w _ _ _ _ _ _ hg, Result.andThen_ok, run_neq_struct, p3], by
     have : (b != true) = !b := by cases b <;> rfl
     rw [this]; exact .bool _⟩
 ·cases hv
end
end Go.Ab
end
section
namespace Go.Ab
section
variable {P : Program} {G : Glo} {w : World} {O : Nat → Prop}
theorem map_of {t : TypeId} {k : IntKind} {e : TypeId} (h : mapOf P t = some (k, e)) : ∃ kt, P.underlying t = some (.map kt e) ∧ P.underlying kt = some (.int k) := by
 unfold mapOf at h
 split at h
 ·rename_i kt e' hu
  split at h
  ·rename_i i hi
   cases h
   exact ⟨kt, hu, hi⟩
  ·cases h
 ·cases h
theorem run_ckey {kt : TypeId} {k : IntKind} (hk : P.underlying kt = some (.int k)) (em : Bool) (k' : IntKind) (n : Int) : (Instr.checkKey em 10000 kt (.int k' n)).run P w = .ok () w := by
 unfold Instr.checkKey
 simp only [Sem.run_bind, run_underlying hk, Result.andThen]
 rfl
theorem mapK_eq {h : Heap} {b : Nat} {es : Array MapEntry} {t : Nat} (hm : (h b).bind mapK = some (es, t)) : h b = some ⟨[.raw (.map es t)], 0⟩ := by
 cases hb : h b with
 | none => simp [hb] at hm
 | some x =>
  simp only [hb, Option.bind_some] at hm
  unfold mapK at hm
  split at hm
  ·cases hm; rfl
  ·cases hm
theorem mapAt_sound {h : Heap} (hh : HRep w h) {x : AV} {es : Array MapEntry} {t : Nat} (hm : mapAt h x = some (es, t)) {c : Value} (hr : Rep w O x c) :
  (c = .map none ∧ es = #[]) ∨ ∃ b, c = .map (some b) ∧ w.heap[b]? = some (.map es t) := by
 unfold mapAt at hm
 split at hm
 ·cases hm
  exact .inl ⟨rep_mpp hr, rfl⟩
 ·rename_i b
  exact .inr ⟨b, rep_mpp hr, (hh.obj (mapK_eq hm)).1⟩
 ·cases hm
theorem lkp_sound {h : Heap} (hh : HRep w h) {t : TypeId} {k : IntKind} {e : TypeId} (ht : mapOf P t = some (k, e)) {z : Value} (hz : (P.info? e).bind (·.zero) = some z) {ok : Bool}
  {x : AV} {es : Array MapEntry} {tm : Nat} (hm : mapAt h x = some (es, tm)) {k' : IntKind} {n : Int} {r : Option (Nat × Value)} (hf : Instr.findNow (.int k) (.int k' n) es.toList 0 = some r)
  {c : Value} (hr : Rep w O x c) : ∃ v, (Instr.lookup t c (.int k' n) ok).run P w = .ok v w ∧ Rep w O (lkA (ofV1 z) ok r) v := by
 obtain ⟨kt, hu, hk⟩ := map_of ht
 have hz' : (zeroValue e).run P w = .ok z w := by
  cases hi : P.info? e with
  | none => simp [hi] at hz
  | some i =>
   simp only [hi, Option.bind_some] at hz
   simp [zeroValue, run_typeInfo w hi, hz, Result.andThen]
 have hfk : (Instr.findKey kt (.int k' n) es.toList).run P w = .ok r w := MapKept.run_findKey hk hf
 have hes : (Instr.lookup t c (.int k' n) ok).run P w = ((do
   let (v, ok') ← match r with
    | some (_, v) => pure (v, true)
    | none => pure (← zeroValue e, false)
   pure (if ok then Value.tuple #[v, .bool ok'] else v) : Sem Value)).run P w := by
  rcases mapAt_sound hh hm hr with ⟨rfl, rfl⟩ | ⟨b, rfl, hb⟩
  ·simp only [Instr.lookup, Sem.run_bind, Sem.run_pure, run_underlying hu, Result.andThen, run_ckey hk, hfk]
   cases r <;> rfl
  ·simp only [Instr.lookup, Sem.run_bind, Sem.run_pure, run_underlying hu, MapKept.run_getObj_map hb, Result.andThen, run_ckey hk, hfk]
   cases r <;> rfl
 rw [hes]
 have fin : ∀ v s, Rep w O s v → ∀ q, Rep w O (bif ok then .tup [s, .bool q] else s) (if ok then Value.tuple #[v, .bool q] else v) := by
  intro v s hv q
  cases ok
  ·exact hv
  ·refine .tup _ _ rfl (fun i a c ha hc => ?_)
   match i with
   | 0 => simp at ha hc; subst ha; subst hc; exact hv
   | 1 => simp at ha hc; subst ha; subst hc; exact .bool _
   | i + 2 => simp at ha
 cases r with
 | none => exact ⟨_, by simp only [Sem.run_bind, Sem.run_pure, hz', Result.andThen], fin z _ (rep_ofV1 z) false⟩
 | some p => exact ⟨_, by simp only [Sem.run_bind, Sem.run_pure, Result.andThen], fin p.2 _ (rep_ofV1 p.2) true⟩
theorem eqm_sound {t kt e : TypeId} (hu : P.underlying t = some (.map kt e)) (r : Option Nat) (neg : Bool) (x y : Operand) :
  (do eqGuard (if neg then .neq else .eql) t x y (.map r) (.map none); binOp (if neg then .neq else .eql) t (.map r) (.map none) : Sem Value).run P w = .ok (.bool (r.isNone != neg)) w := by
 have h : (Op.equal t (.map r) (.map none)).run P w = .ok r.isNone w := by
  unfold Op.equal Op.equalIn
  cases r <;> simp [run_underlying hu, Result.andThen, Op.maxDepth]
 cases neg
 ·simp only [Bool.false_eq_true, if_false, Sem.run_bind]
  rw [show (eqGuard .eql t x y (.map r) (.map none)).run P w = .ok () w from rfl]
  simp [binOp, h, Result.andThen]
 ·simp only [if_true, Sem.run_bind]
  rw [show (eqGuard .neq t x y (.map r) (.map none)).run P w = .ok () w from rfl]
  simp [binOp, h, Result.andThen]
theorem findNow_key {k k' : IntKind} {n : Int} : ∀ (l : List MapEntry) (i j : Nat) (v : Value), Instr.findNow (.int k) (.int k' n) l i = some (some (j, v)) → i ≤ j ∧ (l[j - i]?).map (·.key) = some (.int k' n)
 | [], i, j, v, h => by simp [Instr.findNow] at h
 | e :: l, i, j, v, h => by
  unfold Instr.findNow at h
  split at h
  ·rename_i hs
   simp only [Option.some.injEq, Prod.mk.injEq] at h
   obtain ⟨rfl, _⟩ := h
   refine ⟨Nat.le_refl _, ?_⟩
   unfold Instr.sameNow at hs
   split at hs
   ·rename_i e1 e2
    split at hs
    ·rename_i hk
     subst hk
     simp only [Value.int.injEq] at e1
     obtain ⟨rfl, rfl⟩ := e1
     simp at hs
     subst hs
     simp [e2]
    ·cases hs
   ·rename_i e1 e2; cases e1
   ·rename_i e1 e2; cases e1
   ·cases hs
  ·obtain ⟨h1, h2⟩ := findNow_key l (i + 1) j v h
   refine ⟨by omega, ?_⟩
   rw [show j - i = (j - (i + 1)) + 1 by omega]
   simpa using h2
  ·cases h
theorem run_stays {k' : IntKind} {n : Int} {v : Value} (h : v = .int k' n) : (Instr.keyThatStays v (.int k' n)).run P w = .ok (.int k' n) w := by
 subst h
 simp [Instr.keyThatStays, Instr.sameBits]
theorem run_mup {t : TypeId} {k : IntKind} {e : TypeId} (ht : mapOf P t = some (k, e)) {b : Nat} {es : Array MapEntry} {tm : Nat} (hb : w.heap[b]? = some (.map es tm)) {k' : IntKind} {n : Int} {r : Option (Nat × Value)}
  (hf : Instr.findNow (.int k) (.int k' n) es.toList 0 = some r) (val : Value) :
  (Instr.mapUpdate t (.map (some b)) (.int k' n) val).run P w = .ok () { w with heap := w.heap.setIfInBounds b (match r with
   | some (j, _) => .map (es.modify j fun e => { e with key := .int k' n, val }) tm
   | none => .map (es.push { key := .int k' n, val, born := tm }) (tm + 1)) } := by
 obtain ⟨kt, hu, hk⟩ := map_of ht
 have hfk : (Instr.findKey kt (.int k' n) es.toList).run P w = .ok r w := MapKept.run_findKey hk hf
 cases r with
 | none => simp [Instr.mapUpdate, run_underlying hu, MapKept.run_getObj_map hb, run_ckey hk, hfk, MapKept.run_setObj_map _ hb, Result.andThen]
 | some p =>
  obtain ⟨j, v⟩ := p
  obtain ⟨_, h2⟩ := findNow_key _ _ _ _ hf
  have h3 : (((es[j]?).map (·.key)).getD (.int k' n)) = .int k' n := by
   simp only [Nat.sub_zero, Array.getElem?_toList] at h2
   rw [h2]; rfl
  simp [Instr.mapUpdate, run_underlying hu, MapKept.run_getObj_map hb, run_ckey hk, hfk, h3, run_stays rfl, MapKept.run_setObj_map _ hb, Result.andThen]
theorem run_dlt {t ty : TypeId} {k : IntKind} {e : TypeId} (ht : mapOf P t = some (k, e)) {b : Nat} {es : Array MapEntry} {tm : Nat} (hb : w.heap[b]? = some (.map es tm)) {k' : IntKind} {n : Int} {r : Option (Nat × Value)}
  (hf : Instr.findNow (.int k) (.int k' n) es.toList 0 = some r) (ts : List TypeId) :
  (Builtin.delete_ (t :: ts).toArray ty #[.map (some b), .int k' n]).run P w = .ok (.tuple #[]) { w with heap := w.heap.setIfInBounds b (match r with
   | some (j, _) => .map (es.eraseIdxIfInBounds j) tm
   | none => .map es tm) } := by
 obtain ⟨kt, hu, hk⟩ := map_of ht
 have hfk : (Instr.findKey kt (.int k' n) es.toList).run P w = .ok r w := MapKept.run_findKey hk hf
 cases r <;> simp [Builtin.delete_, run_underlying hu, MapKept.run_getObj_map hb, run_ckey hk, hfk, MapKept.run_setObj_map _ hb, Result.andThen]
theorem run_dlt0 {t ty : TypeId} {k : IntKind} {e : TypeId} (ht : mapOf P t = some (k, e)) (k' : IntKind) (n : Int) (ts : List TypeId) :
  (Builtin.delete_ (t :: ts).toArray ty #[.map none, .int k' n]).run P w = .ok (.tuple #[]) w := by
 obtain ⟨kt, hu, hk⟩ := map_of ht
 simp [Builtin.delete_, run_underlying hu, run_ckey hk, Result.andThen]
end
end Go.Ab
end
section
namespace Go.Ab
section
variable {P : Program} {G : Glo} {w : World}
theorem abound_sound {O : Nat → Prop} {ρ : Env} {a : Act} {dflt most r : Nat} {o : Option Operand} (h : abound (xv G ρ) dflt most o = some r) (hx : ∀ x, o = some x → Rep w O (xv G ρ x) (a.eval x)) :
  (o = none ∧ r = dflt) ∨ ∃ x k, o = some x ∧ a.eval x = .int k r ∧ r ≤ most := by
 unfold abound at h
 split at h
 ·cases h; exact .inl ⟨rfl, rfl⟩
 ·rename_i x
  split at h
  ·rename_i k i hi
   split at h
   ·rename_i hb
    cases h
    have hr := hx x rfl
    rw [hi] at hr
    refine .inr ⟨x, k, rfl, ?_, by omega⟩
    rw [rep_int hr, Int.toNat_of_nonneg hb.1]
   ·cases h
  ·cases h
theorem run_sliceBounds {O : Nat → Prop} {ρ : Env} {a : Act} {len cap hh l : Nat} {lo hi : Option Operand} (isS : Bool) (hlc : len ≤ cap)
  (h1 : abound (xv G ρ) len len hi = some hh) (h2 : abound (xv G ρ) 0 hh lo = some l)
  (hx1 : ∀ x, hi = some x → Rep w O (xv G ρ x) (a.eval x)) (hx2 : ∀ x, lo = some x → Rep w O (xv G ρ x) (a.eval x)) :
  (Instr.sliceBounds isS len cap (lo.map a.eval) (hi.map a.eval) none).run P w = .ok (l, hh, cap) w ∧ l ≤ hh ∧ hh ≤ len := by
 have e1 := abound_sound h1 hx1
 have e2 := abound_sound h2 hx2
 have key1 : (hi.map a.eval = none ∧ hh = len) ∨ ∃ k, hi.map a.eval = some (.int k hh) ∧ hh ≤ len := by
  rcases e1 with ⟨rfl, rfl⟩ | ⟨x, k, rfl, hx, hle⟩
  ·exact .inl ⟨rfl, rfl⟩
  ·exact .inr ⟨k, by simp [hx], hle⟩
 have key2 : (lo.map a.eval = none ∧ l = 0) ∨ ∃ k, lo.map a.eval = some (.int k l) ∧ l ≤ hh := by
  rcases e2 with ⟨rfl, rfl⟩ | ⟨x, k, rfl, hx, hle⟩
  ·exact .inl ⟨rfl, rfl⟩
  ·exact .inr ⟨k, by simp [hx], hle⟩
 refine ⟨?_, by rcases key2 with ⟨_, rfl⟩ | ⟨_, _, h⟩ <;> omega, by rcases key1 with ⟨_, rfl⟩ | ⟨_, _, h⟩ <;> omega⟩
 rcases key1 with ⟨e, rfl⟩ | ⟨k, e, hle⟩ <;> rcases key2 with ⟨e', rfl⟩ | ⟨k', e', hle'⟩ <;>
  simp only [Instr.sliceBounds, e, e', Sem.run_bind, Sem.run_pure, Result.andThen_ok, Instr.sliceBound, asIntOf, Sem.run_ite]
 ·rw [if_pos (by omega)]; simp
 ·rw [if_pos (by omega)]; simp
 ·rw [if_pos (by omega)]; simp only [Result.andThen_ok]; rw [if_pos (by omega)]; simp
theorem run_sliceBounds3 {O : Nat → Prop} {ρ : Env} {a : Act} {len cap c hh l mm : Nat} {lo : Option Operand} {hi mx : Operand} (isS : Bool) (hc : c ≤ cap)
  (h0 : abound (xv G ρ) 0 c (some mx) = some mm) (h1 : abound (xv G ρ) 0 mm (some hi) = some hh) (h2 : abound (xv G ρ) 0 hh lo = some l)
  (hx0 : Rep w O (xv G ρ mx) (a.eval mx)) (hx1 : Rep w O (xv G ρ hi) (a.eval hi)) (hx2 : ∀ x, lo = some x → Rep w O (xv G ρ x) (a.eval x)) :
  (Instr.sliceBounds isS len cap (lo.map a.eval) (some (a.eval hi)) (some (a.eval mx))).run P w = .ok (l, hh, mm) w ∧ l ≤ hh ∧ hh ≤ mm ∧ mm ≤ c := by
 have e0 := abound_sound h0 (O := O) (a := a) (w := w) (fun x hx => by cases hx; exact hx0)
 have e1 := abound_sound h1 (O := O) (a := a) (w := w) (fun x hx => by cases hx; exact hx1)
 have e2 := abound_sound h2 hx2
 rcases e0 with ⟨e, _⟩ | ⟨x, k, e, hx, hle⟩
 ·cases e
 ·cases e
  rcases e1 with ⟨e, _⟩ | ⟨x', k', e, hx', hle'⟩
  ·cases e
  ·cases e
   have key2 : (lo.map a.eval = none ∧ l = 0) ∨ ∃ k, lo.map a.eval = some (.int k l) ∧ l ≤ hh := by
    rcases e2 with ⟨rfl, rfl⟩ | ⟨x, k, rfl, hx, hle⟩
    ·exact .inl ⟨rfl, rfl⟩
    ·exact .inr ⟨k, by simp [hx], hle⟩
   refine ⟨?_, by rcases key2 with ⟨_, rfl⟩ | ⟨_, _, h⟩ <;> omega, hle', hle⟩
   rcases key2 with ⟨e', rfl⟩ | ⟨k2, e', hle2⟩ <;>
    simp only [Instr.sliceBounds, hx, hx', e', Sem.run_bind, Sem.run_pure, Result.andThen_ok, Instr.sliceBound, asIntOf, Sem.run_ite]
   ·rw [if_pos (by omega)]; simp only [Result.andThen_ok]; rw [if_pos (by omega)]; simp
   ·rw [if_pos (by omega)]; simp only [Result.andThen_ok]; rw [if_pos (by omega)]; simp only [Result.andThen_ok]; rw [if_pos (by omega)]; simp
theorem ro_part {O : Nat → Prop} {b o off n sz : Nat} {cs : Nat → Value} {cells : List AV} {p : Option Addr} {cap : Nat} (hlc : n ≤ cap) (hb : b < w.heap.size) (hO : ¬ O b)
  (h1 : ∀ i v, cells[i]? = some v → w.cell? ⟨b, o + i, none⟩ = some (cs i) ∧ (cs i).oneCell' = true) (h2 : ∀ i v, cells[i]? = some v → Rep w O v (cs i))
  (hp : n = 0 ∨ p = some ⟨b, o + off, none⟩) : Rep w O (.ro ((cells.drop off).take (n * sz)) n) (.slice p n cap) := by
 rcases hp with rfl | rfl
 ·simp only [Nat.zero_mul, List.take_zero]
  exact .roe p cap
 ·refine .ro _ n cap b (o + off) (fun i => cs (off + i)) hlc hb hO (fun i v hv => ?_) (fun i v hv => ?_)
  ·rw [List.getElem?_take] at hv
   split at hv
   ·have := h1 (off + i) v (by simpa using hv)
    rwa [← Nat.add_assoc] at this
   ·cases hv
  ·rw [List.getElem?_take] at hv
   split at hv
   ·exact h2 (off + i) v (by simpa using hv)
   ·cases hv
theorem run_mapM {α β : Type} (f : α → Sem β) (g : α → β) (l : List α) (h : ∀ x ∈ l, (f x).run P w = .ok (g x) w) : (l.mapM f).run P w = .ok (l.map g) w := by
 induction l with
 | nil => simp
 | cons x r ih =>
  simp only [List.mapM_cons, Sem.run_bind, h x (by simp), Result.andThen_ok, ih (fun y hy => h y (by simp [hy])), Sem.run_pure, List.map_cons]
theorem run_mapM_array {α β : Type} (f : α → Sem β) (g : α → β) (l : Array α) (h : ∀ x ∈ l.toList, (f x).run P w = .ok (g x) w) : (l.mapM f).run P w = .ok (l.map g) w := by
 rw [Array.mapM_eq_mapM_toList, Sem.run_map, run_mapM f g l.toList h]
 simp only [Result.andThen_ok, Result.ok.injEq, and_true]
 apply Array.ext'
 simp
theorem parts_list {fs : Array Field} : ∀ (l : List (Nat × Operand)) (m : List (Nat × Nat × Operand)), (l.mapM fun (x : Nat × Operand) => (do let f ← fs[x.1]?; let n ← szOf P f.type; some (f.offset, n, x.2) : Option (Nat × Nat × Operand))) = some m →
  l.length = m.length ∧ ∀ (j : Nat) i x off n y, l[j]? = some (i, x) → m[j]? = some (off, n, y) → (∃ f, fs[i]? = some f ∧ f.offset = off ∧ szOf P f.type = some n) ∧ y = x := by
 intro l
 induction l with
 | nil => intro m hm; simp at hm; subst hm; exact ⟨rfl, fun j i x off n y h => by simp at h⟩
 | cons p r ih =>
  intro m hm
  simp only [List.mapM_cons, Option.bind_eq_bind, Option.bind_eq_some_iff, Option.some.injEq] at hm
  obtain ⟨q, ⟨f, hf, n, hn, rfl⟩, m', hm', hmm⟩ := hm
  obtain ⟨i1, i2⟩ := ih m' (by simpa using hm')
  cases hmm
  refine ⟨by simp [i1], fun j i x off n' y h1 h2 => ?_⟩
  cases j with
  | zero =>
   simp at h1 h2
   obtain ⟨rfl, rfl, rfl⟩ := h2
   subst h1
   exact ⟨⟨f, hf, rfl, hn⟩, rfl⟩
  | succ j => exact i2 j i x off n' y (by simpa using h1) (by simpa using h2)
theorem zero_rep {O : Nat → Prop} {t : TypeId} {z : List AV} (hz : zeroOf P t = some z) :
  ∃ zv : Value, (zeroValue t).run P w = .ok zv w ∧ Rep w O (.agg z) (.agg zv.cells) := by
 unfold zeroOf at hz
 cases hi : P.info? t with
 | none => simp [hi] at hz
 | some i =>
  cases hzv : i.zero with
  | none => simp [hi, hzv] at hz
  | some zv =>
   simp only [hi, Option.bind_some, hzv] at hz
   split at hz
   ·rename_i hall
    cases hz
    have hz1 : ∀ x ∈ zv.cells.toList, x.oneCell' = true := List.all_eq_true.1 hall
    refine ⟨zv, by simp [zeroValue, run_typeInfo w hi, hzv], ?_⟩
    refine .agg _ _ (by simp) (fun i c hc => hz1 c (Array.mem_toList_iff.2 (Array.mem_of_getElem? hc))) (fun i v c hv hc => ?_)
    have hc' : zv.cells.toList[i]? = some c := by simpa using hc
    have : v = ofV1 c := by simpa [List.getElem?_map, hc'] using hv.symm
    rw [this]; exact rep_ofV1 c
   ·cases hz
theorem build_sound {O : Nat → Prop} {ρ : Env} {a : Act} {t : TypeId} {parts : Array (Nat × Operand)} {z : List AV} {ps : List (Nat × Nat × Operand)} {out : List AV}
  (hz : zeroOf P t = some z) (hps : partsOf P t parts.toList = some ps) (hops : ∀ p ∈ parts.toList, Rep w O (xv G ρ p.2) (a.eval p.2)) (ho : afill (xv G ρ) z ps = some out) :
  ∃ c, (Instr.build t (parts.map fun (i, x) => (i, a.eval x))).run P w = .ok c w ∧ Rep w O (.agg out) c := by
 obtain ⟨zv, hzero, hzr⟩ := zero_rep (w := w) (O := O) hz
 unfold partsOf at hps
 cases hu : P.underlying t with
 | none => simp [hu] at hps
 | some u =>
  cases u <;> simp only [hu] at hps <;> try (cases hps; done)
  case struct fs =>
   split at hps
   ·rename_i hall
    obtain ⟨hl, hj⟩ := parts_list parts.toList ps hps
    have hall' := List.all_eq_true.1 hall
    have hpl := run_mapM_array (P := P) (w := w) (fun (f : Field) => (do pure (f.offset, ← sizeOf f.type) : Sem (Nat × Nat))) (fun f => (f.offset, (szOf P f.type).getD 0)) fs (fun f hf => by
     obtain ⟨n, hn⟩ := Option.isSome_iff_exists.1 (hall' f hf)
     simp [run_sz hn, hn])
    obtain ⟨cs', hf, hr⟩ := afill_sound (G := G) (ρ := ρ) (a := a) (place := fun i => (fs.map fun f => (f.offset, (szOf P f.type).getD 0))[i]?) parts.toList ps z zv.cells out hl (fun j i x off n y h1 h2 => by
     obtain ⟨⟨f, hf, h3, h4⟩, h5⟩ := hj j i x off n y h1 h2
     exact ⟨by simp [hf, h3, h4], h5⟩) hops hzr ho
    refine ⟨.agg cs', ?_, hr⟩
    simp only [Instr.build, Sem.run_bind, hzero, Result.andThen_ok, run_underlying hu, hpl]
    simp only [Array.toList_map]
    rw [hf]
    simp
   ·cases hps
  case array k e =>
   simp only [Option.bind_eq_bind, Option.bind_eq_some_iff, Option.some.injEq] at hps
   obtain ⟨n, hn, rfl⟩ := hps
   obtain ⟨cs', hf, hr⟩ := afill_sound (G := G) (ρ := ρ) (a := a) (place := fun i => some (i * n, n)) parts.toList _ z zv.cells out (by simp) (fun j i x off n' y h1 h2 => by
     simp only [List.getElem?_map, Option.map_eq_some_iff] at h2
     obtain ⟨⟨i', x'⟩, h3, h4⟩ := h2
     simp at h1 h3
     rw [h1] at h3
     cases h3
     simp only [Prod.mk.injEq] at h4
     obtain ⟨rfl, rfl, rfl⟩ := h4
     exact ⟨rfl, rfl⟩) hops hzr ho
   refine ⟨.agg cs', ?_, hr⟩
   simp only [Instr.build, Sem.run_bind, hzero, Result.andThen_ok, run_underlying hu, run_sz hn]
   simp only [Array.toList_map]
   rw [hf]
   simp
theorem addedBy_sound {h : Heap} (hh : HRep w h) {sz m : Nat} {y : AV} {cs : List AV} (hy : addedBy h sz y = some (m, cs)) {c : Value} (hr : Rep w h.dom y c) :
  cs.length = m * sz ∧ ∃ news : List Value, RepL w h.dom cs news ∧ (∀ v ∈ news, v.oneCell' = true) ∧ (Builtin.lenOf c).run P w = .ok m w ∧
   ∀ w1 : World, w1.heap = w.heap → (Builtin.firstCells sz m c).run P w1 = .ok news.toArray w1 := by
 unfold addedBy at hy
 split at hy
 ·cases hy
  rw [rep_nils hr]
  exact ⟨by simp, [], .nil, by simp, by simp [Builtin.lenOf], fun w1 _ => by simp [Builtin.firstCells]⟩
 ·rename_i cells n
  split at hy
  ·rename_i hl
   cases hy
   obtain ⟨p, cap, hc, _, hp⟩ := rep_ro hr
   refine ⟨hl, ?_⟩
   rcases hp with ⟨rfl, rfl⟩ | ⟨b, o, f, rfl, hb, hO, h1, h2⟩
   ·refine ⟨[], .nil, by simp, by rw [hc]; simp [Builtin.lenOf], fun w1 _ => ?_⟩
    rw [hc]
    cases p with
    | none => simp [Builtin.firstCells]
    | some p => simp [Builtin.firstCells, loadCells, loadCellsFrom]
   ·have hat : At w h.dom b o cs := fun i v hv => ⟨f i, (h1 i v hv).1, (h1 i v hv).2, h2 i v hv⟩
    obtain ⟨news, e1, e2, e3, e4⟩ := hat.list
    refine ⟨news, e4, e3, by rw [hc]; simp [Builtin.lenOf], fun w1 hw => ?_⟩
    rw [hc]
    exact run_firstCells_some w1 sz m _ _ _ news (by omega) fun j v hv => by
     rw [Addr.add_lit]
     have := e2 j v hv
     simpa only [World.cell?, hw] using this
  ·cases hy
 ·rename_i b o n cap
  split at hy
  ·rename_i x hb
   split at hy
   ·rename_i hle
    cases hy
    obtain ⟨p, hc, hlc, hp⟩ := rep_sl hr
    have hcl : ((x.cells.drop o).take (m * sz)).length = m * sz := by simp; omega
    refine ⟨hcl, ?_⟩
    have hat : At w h.dom b (0 + o) ((x.cells.drop o).take (m * sz)) := by
     by_cases h0 : m = 0 ∧ cap = 0
     ·rw [h0.1, Nat.zero_mul, List.take_zero]; intro i v hv; cases hv
     ·exact ((hh.at hb (rep_slC hr h0)).drop o).take _
    obtain ⟨news, e1, e2, e3, e4⟩ := hat.list
    refine ⟨news, e4, e3, by rw [hc]; simp [Builtin.lenOf], fun w1 hw => ?_⟩
    rw [hc]
    rcases hp with ⟨rfl, rfl⟩ | rfl
    ·have : news = [] := by
      have : news.length = 0 := by rw [e1, hcl]; simp
      exact List.eq_nil_of_length_eq_zero this
     subst this
     simp [Builtin.firstCells, loadCells, loadCellsFrom]
    ·exact run_firstCells_some w1 sz m _ _ _ news (by omega) fun j v hv => by
      rw [Addr.add_lit]
      have := e2 j v hv
      rw [Nat.zero_add] at this
      simpa only [World.cell?, hw] using this
   ·cases hy
  ·cases hy
 ·rename_i s
  split at hy
  ·rename_i h1
   cases hy
   subst h1
   rw [rep_str hr]
   have hdl : s.data.toList.length = s.size := by simp
   refine ⟨by simp, s.data.toList.map fun c => .int .u8 c.toNat, ⟨by simp, fun i a v ha hv => ?_⟩, by simp [Value.oneCell'], by simp [Builtin.lenOf], fun w1 _ => ?_⟩
   ·simp only [List.getElem?_map, Option.map_eq_some_iff] at ha hv
    obtain ⟨c, h1, rfl⟩ := ha
    obtain ⟨d, h2, rfl⟩ := hv
    rw [h1] at h2
    cases h2
    exact .int _ _
   ·simp only [Builtin.firstCells, Sem.run_pure]
    congr 1
    have e : s.extract 0 s.size = s := by simp
    rw [e]
    apply Array.ext'
    simp
  ·cases hy
 ·cases hy
theorem intsOf_rep {O : Nat → Prop} : ∀ (cells : List AV) (cs : List Value) (ns : List Int), RepL w O cells cs → intsOf cells = some ns → cs = ns.map (.int .u8) := by
 intro cells
 induction cells with
 | nil => intro cs ns hr h; simp [intsOf] at h; subst h; exact List.eq_nil_of_length_eq_zero hr.1.symm
 | cons a r ih =>
  intro cs ns hr h
  cases cs with
  | nil => have := hr.1; simp at this
  | cons c s =>
   have h0 := hr.2 0 a c rfl rfl
   have hs : RepL w O r s := ⟨by simpa using hr.1, fun i x y hx hy => hr.2 (i + 1) x y (by simpa using hx) (by simpa using hy)⟩
   cases a <;> (try (simp only [intsOf] at h; cases h; done))
   rename_i k n
   cases k <;> (try (simp only [intsOf] at h; cases h; done))
   simp only [intsOf] at h
   obtain ⟨m, hm, rfl⟩ := Option.map_eq_some_iff.1 h
   rw [ih s m hs hm, rep_int h0]
   rfl
theorem evR_sound (o : Oper) {k : RK} (ht : trK P o.op = some (.r k)) {a : Act} {ρ : Env} {h : Heap} (hh : HRep w h)
  (hx : ∀ x : Operand, x ∈ o.op.operands → Rep w h.dom (xv G ρ x) (a.eval x)) {v : AV} (hv : evR G k ρ h = some v) :
  ∃ c, (execOp a.eval o).run P w = .ok (.value c) w ∧ Rep w h.dom v c := by
 obtain ⟨dst, op, type, pos, after, guard⟩ := o
 simp only at ht hx
 cases op <;> simp only [trK] at ht
 case move x =>
  cases ht; cases hv
  exact ⟨_, rfl, hx x (by simp [Op.operands])⟩
 case pick c x y =>
  cases ht
  simp only [evR] at hv
  split at hv
  ·rename_i t hc
   cases hv
   have hc' := hx c (by simp [Op.operands])
   rw [hc] at hc'
   refine ⟨if t then a.eval x else a.eval y, ?_, ?_⟩
   ·simp only [execOp, rep_bool hc', asBool, Sem.run_bind, Sem.run_pure, Result.andThen_ok]
   ·cases t
    ·simpa using hx y (by simp [Op.operands])
    ·simpa using hx x (by simp [Op.operands])
  ·cases hv
 case build t parts =>
  simp only [Option.bind_eq_bind, Option.bind_eq_some_iff, Option.some.injEq, K.r.injEq] at ht
  obtain ⟨z, hz, ps, hps, rfl⟩ := ht
  simp only [evR] at hv
  obtain ⟨out, ho, rfl⟩ := Option.map_eq_some_iff.1 hv
  obtain ⟨c, h1, h2⟩ := build_sound (G := G) (w := w) (O := h.dom) (ρ := ρ) (a := a) hz hps (fun p hp => hx p.2 (by simp [Op.operands]; exact ⟨p.1, by simpa using hp⟩)) ho
  exact ⟨c, by simp only [execOp, Sem.run_bind, h1, Result.andThen_ok, Sem.run_pure], h2⟩
 case load t x =>
  obtain ⟨n, hn, hk⟩ := Option.map_eq_some_iff.1 ht
  cases hk
  obtain ⟨c, h1, h2⟩ := ald_sound (P := P) hh hv (hx x (by simp [Op.operands])) hn
  exact ⟨c, by simp only [execOp, Sem.run_bind, h1, Result.andThen_ok, Sem.run_pure], h2⟩
 case nilCheck x =>
  cases ht
  simp only [evR] at hv
  have hr := hx x (by simp [Op.operands])
  split at hv
  ·rename_i b o he
   cases hv
   rw [he] at hr
   exact ⟨_, by simp only [execOp, rep_ptr hr]; rfl, .ptr b o (rep_ptrC hr)⟩
  ·rename_i cells o he
   cases hv
   rw [he] at hr
   obtain ⟨b, o', cs, hc, _⟩ := rep_cp hr
   exact ⟨a.eval x, by simp only [execOp, hc]; rfl, hr⟩
  ·cases hv
 case binOp op t x y yt =>
  have hrx := hx x (by simp [Op.operands])
  have hry := hx y (by simp [Op.operands])
  have fin : ∀ {v : AV}, (∃ r, (do eqGuard op t x y (a.eval x) (a.eval y); binOp op t (a.eval x) (a.eval y) : Sem Value).run P w = .ok r w ∧ Rep w h.dom v r) →
    ∃ c, (execOp a.eval { dst, op := .binOp op t x y yt, type, pos, after, guard }).run P w = .ok (.value c) w ∧ Rep w h.dom v c := by
   rintro v ⟨r, h1, h2⟩
   exact ⟨r, by simp only [execOp]; rw [Sem.run_bind, h1]; rfl, h2⟩
  unfold trBin at ht
  split at ht
  ·rename_i k hu
   cases ht
   refine fin ?_
   obtain ⟨r, h1, h2⟩ := abin_sound (P := P) (w := w) hv hrx hry t
   exact ⟨r, by rw [Sem.run_bind, guard_int (abin_left hv hrx)]; exact h1, h2⟩
  ·rename_i hu
   cases ht
   refine fin ?_
   obtain ⟨r, h1, h2⟩ := abin_sound (P := P) (w := w) hv hrx hry t
   exact ⟨r, by rw [Sem.run_bind, guard_int (abin_left hv hrx)]; exact h1, h2⟩
  ·rename_i hu
   have key : ∀ neg, abeq neg (xv G ρ x) (xv G ρ y) = some v → ∃ r, (do eqGuard (if neg then .neq else .eql) t x y (a.eval x) (a.eval y); binOp (if neg then .neq else .eql) t (a.eval x) (a.eval y) : Sem Value).run P w = .ok r w ∧ Rep w h.dom v r := by
    intro neg hv
    unfold abeq at hv
    split at hv
    ·rename_i p q hp hq
     cases hv
     rw [hp] at hrx
     rw [hq] at hry
     rw [rep_bool hrx, rep_bool hry]
     cases neg
     ·exact ⟨_, by simp only [Bool.false_eq_true, if_false, Sem.run_bind]; rw [show (eqGuard .eql t x y (.bool p) (.bool q)).run P w = .ok () w from rfl]; exact run_eql_bool w t p q hu, by simpa using Rep.bool (p == q)⟩
     ·refine ⟨_, by simp only [if_true, Sem.run_bind]; rw [show (eqGuard .neq t x y (.bool p) (.bool q)).run P w = .ok () w from rfl]; exact run_neq_bool w t p q hu, ?_⟩
      have : ((p == q) != true) = !(p == q) := by cases p <;> cases q <;> rfl
      rw [this]; exact .bool _
    ·cases hv
   split at ht
   ·cases ht; exact fin (key false hv)
   ·cases ht; exact fin (key true hv)
   ·cases ht
  ·rename_i e hu
   have hpt : P.underlying t = some (.pointer (P.pointee t)) := by rw [hu]; simp [Program.pointee, hu]
   have key : ∀ neg, peq neg (xv G ρ x) (xv G ρ y) = some v → ∃ r, (do eqGuard (if neg then .neq else .eql) t x y (a.eval x) (a.eval y); binOp (if neg then .neq else .eql) t (a.eval x) (a.eval y) : Sem Value).run P w = .ok r w ∧ Rep w h.dom v r := by
    intro neg hv
    have go : ∀ (p : Option Addr), a.eval x = .pointer p → a.eval y = .pointer none → v = .bool (p.isNone != neg) →
      ∃ r, (do eqGuard (if neg then .neq else .eql) t x y (a.eval x) (a.eval y); binOp (if neg then .neq else .eql) t (a.eval x) (a.eval y) : Sem Value).run P w = .ok r w ∧ Rep w h.dom v r := by
     intro p h1 h2 h3
     rw [h1, h2, h3]
     cases neg
     ·exact ⟨_, by simp only [Bool.false_eq_true, if_false, Sem.run_bind]; rw [show (eqGuard .eql t x y (.pointer p) (.pointer none)).run P w = .ok () w from rfl]; exact run_eql_pointer_nil w t p hpt, by simpa using Rep.bool p.isNone⟩
     ·refine ⟨_, by simp only [if_true, Sem.run_bind]; rw [show (eqGuard .neq t x y (.pointer p) (.pointer none)).run P w = .ok () w from rfl]; exact run_neq_pointer_nil w t p hpt, ?_⟩
      have : (p.isNone != true) = !p.isNone := by cases p <;> rfl
      rw [this]; exact .bool _
    unfold peq at hv
    split at hv
    ·rename_i hp hq
     cases hv
     rw [hp] at hrx
     rw [hq] at hry
     exact go none (rep_nilp hrx) (rep_nilp hry) (by cases neg <;> rfl)
    ·rename_i b o hp hq
     cases hv
     rw [hp] at hrx
     rw [hq] at hry
     exact go _ (rep_ptr hrx) (rep_nilp hry) (by cases neg <;> rfl)
    ·rename_i b o hp hq
     cases hv
     rw [hp] at hrx
     rw [hq] at hry
     obtain ⟨b, o', cs, hc, _⟩ := rep_cp hrx
     exact go _ hc (rep_nilp hry) (by cases neg <;> rfl)
    ·cases hv
   split at ht
   ·cases ht
   ·split at ht
    ·cases ht; exact fin (key false hv)
    ·cases ht; exact fin (key true hv)
    ·cases ht
  ·split at ht
   ·split at ht <;> cases ht
   ·cases ht
  ·rename_i kt et hu
   have key : ∀ neg : Bool, y = .const (.map none) → evR G (.eqm neg x) ρ h = some v → ∃ r, (do eqGuard (if neg then .neq else .eql) t x y (a.eval x) (a.eval y); binOp (if neg then .neq else .eql) t (a.eval x) (a.eval y) : Sem Value).run P w = .ok r w ∧ Rep w h.dom v r := by
    rintro neg rfl hv
    simp only [evR] at hv
    split at hv
    ·rename_i r he
     cases hv
     rw [he] at hrx
     rw [rep_mpp hrx]
     exact ⟨_, eqm_sound hu r neg x _, .bool _⟩
    ·cases hv
   split at ht
   ·split at ht
    ·cases ht; exact fin (key false rfl hv)
    ·cases ht; exact fin (key true rfl hv)
    ·cases ht
   ·cases ht
  ·rename_i fs hu
   split at ht
   ·cases ht
   ·rename_i hg
    split at ht
    ·cases ht
    ·have ha := run_agg_of (P := P) (w := w) hu
     split at ht
     ·rename_i ks hf
      cases ht
      exact fin (aeq_sound hf (by simpa using hg) (neg := false) hv hrx hry x y ha)
     ·rename_i ks hf
      cases ht
      exact fin (aeq_sound hf (by simpa using hg) (neg := true) hv hrx hry x y ha)
     ·cases ht
  ·rename_i k e hu
   split at ht
   ·cases ht
   ·rename_i hg
    split at ht
    ·cases ht
    ·have ha := run_agg_of (P := P) (w := w) hu
     split at ht
     ·rename_i ks hf
      cases ht
      exact fin (aeq_sound hf (by simpa using hg) (neg := false) hv hrx hry x y ha)
     ·rename_i ks hf
      cases ht
      exact fin (aeq_sound hf (by simpa using hg) (neg := true) hv hrx hry x y ha)
     ·cases ht
  ·cases ht
 case unOp op t x =>
  cases ht
  have hr := hx x (by simp [Op.operands])
  simp only [evR] at hv
  unfold aun at hv
  split at hv
  ·rename_i k n he
   rw [he] at hr
   have hc := rep_int hr
   split at hv
   ·cases hv
    exact ⟨_, by simp only [execOp, hc, Op.unary, Op.intArith]; rfl, .int _ _⟩
   ·cases hv
    exact ⟨_, by simp only [execOp, hc, Op.unary]; rfl, .int _ _⟩
   ·cases hv
  ·rename_i b he
   rw [he] at hr
   have hc := rep_bool hr
   split at hv
   ·cases hv
    exact ⟨_, by simp only [execOp, hc, Op.unary]; rfl, .bool _⟩
   ·cases hv
  ·cases hv
 case convert src dst x =>
  split at ht
  ·rename_i u k hs hu
   cases ht
   have hr := hx x (by simp [Op.operands])
   simp only [evR] at hv
   split at hv
   ·rename_i k' n he
    cases hv
    rw [he] at hr
    have hc := rep_int hr
    refine ⟨_, ?_, .int _ _⟩
    simp only [execOp, hc, convert, Sem.run_bind, run_underlying hs, run_underlying hu, Result.andThen_ok]
    rfl
   ·cases hv
  ·rename_i e hs hu
   split at ht
   ·rename_i he
    cases ht
    have hr := hx x (by simp [Op.operands])
    simp only [evR] at hv
    split at hv
    ·cases hv
    ·rename_i hns
     split at hv
     ·rename_i m cells hadd
      obtain ⟨ns, hn, rfl⟩ := Option.map_eq_some_iff.1 hv
      obtain ⟨hl, news, h1, h2, h3, h4⟩ := addedBy_sound (P := P) hh hadd hr
      have hnews := intsOf_rep _ _ _ h1 hn
      have hfc := h4 w rfl
      have hshape : ∃ p cap, a.eval x = .slice p m cap := by
       generalize hxv : xv G ρ x = v0 at hr hadd hns
       unfold addedBy at hadd
       split at hadd
       ·cases hadd; exact ⟨none, 0, rep_nils hr⟩
       ·split at hadd
        ·cases hadd
         obtain ⟨p, cap, hc, _⟩ := rep_ro hr
         exact ⟨p, cap, hc⟩
        ·cases hadd
       ·split at hadd
        ·split at hadd
         ·cases hadd
          obtain ⟨p, hc, _⟩ := rep_sl hr
          exact ⟨some p, _, hc⟩
         ·cases hadd
        ·cases hadd
       ·exact (hns _ rfl).elim
       ·cases hadd
      obtain ⟨p, cap, hc⟩ := hshape
      rw [hc] at hfc
      refine ⟨.string (strOf ns), ?_, .str _⟩
      simp only [execOp, hc, Sem.run_bind]
      rw [run_convert_bytes_string w src dst e p m cap hs he hu]
      cases p with
      | none =>
       simp [Builtin.firstCells] at hfc
       have : ns = [] := by rw [hnews] at hfc; simpa using hfc.symm
       subst this
       simp [Conv.bytesToString, strOf]
      | some p =>
       simp only [Builtin.firstCells, Nat.mul_one] at hfc
       rw [hnews] at hfc
       rw [run_bytesToString w p m cap ns hfc]
       simp [strOf]
     ·cases hv
   ·cases ht
  ·cases ht
 case makeFunc fn first caps =>
  cases fn <;> simp only at ht <;> (try (cases ht; done))
  rename_i f
  cases ht
  cases hv
  refine ⟨.func (.func f) (first.map a.eval) (caps.map a.eval), rfl, .fn _ _ _ _ _ (by simp) (by simp) ?_ ?_⟩
  ·intro i v c h1 h2
   simp only [List.getElem?_map, Option.map_eq_some_iff] at h1
   obtain ⟨x, h3, rfl⟩ := h1
   have h3' : first[i]? = some x := by simpa using h3
   simp only [Array.getElem?_map, h3', Option.map_some, Option.some.injEq] at h2
   subst h2
   exact hx x (by simp [Op.operands]; exact .inl (Array.mem_of_getElem? h3'))
  ·intro i v c h1 h2
   simp only [List.getElem?_map, Option.map_eq_some_iff] at h1
   obtain ⟨x, h3, rfl⟩ := h1
   have h3' : caps[i]? = some x := by simpa using h3
   simp only [Array.getElem?_map, h3', Option.map_some, Option.some.injEq] at h2
   subst h2
   exact hx x (by simp [Op.operands]; exact .inr (Array.mem_of_getElem? h3'))
 case fieldAddr s x f =>
  split at ht
  ·rename_i fd hfd
   split at ht
   ·rename_i n hn
    cases ht
    have hr := hx x (by simp [Op.operands])
    unfold fieldOf at hfd
    split at hfd
    ·rename_i fs hu
     have run : ∀ (b o : Nat), (Instr.fieldAt s (.pointer (some ⟨b, o, none⟩)) f).run P w = .ok (.pointer (some ⟨b, o + fd.offset, none⟩)) w := by
      intro b o
      simp [Instr.fieldAt, run_underlying hu, hfd, Instr.sureAddr, fieldPlace, run_sz hn, Addr.add_lit]
     simp only [evR] at hv
     split at hv
     ·rename_i b o he
      cases hv
      rw [he] at hr
      exact ⟨_, by simp only [execOp, rep_ptr hr, Sem.run_bind, run, Result.andThen_ok, Sem.run_pure], .ptr b _ (rep_ptrC hr)⟩
     ·rename_i cells o he
      cases hv
      rw [he] at hr
      obtain ⟨b, o', cs, hc, hb, hO, h1, h2⟩ := rep_cp hr
      refine ⟨.pointer (some ⟨b, o' + o + fd.offset, none⟩), by simp only [execOp, hc, Sem.run_bind, run, Result.andThen_ok, Sem.run_pure], ?_⟩
      rw [Nat.add_assoc]
      exact .cp cells _ b o' cs hb hO h1 h2
     ·cases hv
    ·cases hfd
   ·cases ht
  ·cases ht
 case field s x f =>
  split at ht
  ·rename_i fd hfd
   obtain ⟨n, hn, hk⟩ := Option.map_eq_some_iff.1 ht
   cases hk
   have hr := hx x (by simp [Op.operands])
   unfold fieldOf at hfd
   split at hfd
   ·rename_i fs hu
    simp only [evR] at hv
    split at hv
    ·rename_i cells he
     rw [he] at hr
     obtain ⟨cs, c', hc, h1, h2⟩ := run_part_of (P := P) hr hv hn
     exact ⟨c', by simp only [execOp, hc, Instr.field, Sem.run_bind, run_underlying hu, Result.andThen_ok, hfd, asAgg, Sem.run_pure, h1], h2⟩
    ·cases hv
   ·cases hfd
  ·cases ht
 case extract t i =>
  cases ht
  have hr := hx t (by simp [Op.operands])
  simp only [evR] at hv
  split at hv
  ·rename_i vs he
   rw [he] at hr
   obtain ⟨cs, hc, hl, h1⟩ := rep_tup hr
   have hlt : i < vs.length := (List.getElem?_eq_some_iff.1 hv).1
   have hcs : cs[i]? = some cs[i] := Array.getElem?_eq_getElem (by omega)
   exact ⟨cs[i], by simp only [execOp, hc, Instr.extract, hcs]; rfl, h1 i v _ hv hcs⟩
  ·cases hv
 case indexAddr t x i =>
  have hr := hx x (by simp [Op.operands])
  have hi := hx i (by simp [Op.operands])
  split at ht
  ·rename_i n e hu
   obtain ⟨sz, hsz, hk⟩ := Option.map_eq_some_iff.1 ht
   cases hk
   simp only [evR] at hv
   have run : ∀ (b o : Nat) (k : IntKind) (j : Int), 0 ≤ j ∧ j < (n : Int) → (Instr.indexAt t (.pointer (some ⟨b, o, none⟩)) (.int k j)).run P w = .ok (.pointer (some ⟨b, o + j.toNat * sz, none⟩)) w := by
    intro b o k j hj
    simp [Instr.indexAt, asIntOf, run_underlying hu, Instr.sureAddr, hj, run_sz hsz, Addr.add_lit]
   split at hv
   ·rename_i b o k j he he'
    split at hv
    ·rename_i hj
     cases hv
     rw [he] at hr
     rw [he'] at hi
     exact ⟨_, by simp only [execOp, rep_ptr hr, rep_int hi, Sem.run_bind, run b o k j hj, Result.andThen_ok, Sem.run_pure], .ptr b _ (rep_ptrC hr)⟩
    ·cases hv
   ·rename_i cells o k j he he'
    split at hv
    ·rename_i hj
     cases hv
     rw [he] at hr
     rw [he'] at hi
     obtain ⟨b, o', cs, hc, hb, hO, h1, h2⟩ := rep_cp hr
     refine ⟨.pointer (some ⟨b, o' + o + j.toNat * sz, none⟩), by simp only [execOp, hc, rep_int hi, Sem.run_bind, run b _ k j hj, Result.andThen_ok, Sem.run_pure], ?_⟩
     rw [Nat.add_assoc]
     exact .cp cells _ b o' cs hb hO h1 h2
    ·cases hv
   ·cases hv
  ·rename_i e hu
   obtain ⟨sz, hsz, hk⟩ := Option.map_eq_some_iff.1 ht
   cases hk
   simp only [evR] at hv
   have run : ∀ (b o len cap : Nat) (k : IntKind) (j : Int), 0 ≤ j ∧ j < (len : Int) → (Instr.indexAt t (.slice (some ⟨b, o, none⟩) len cap) (.int k j)).run P w = .ok (.pointer (some ⟨b, o + j.toNat * sz, none⟩)) w := by
    intro b o len cap k j hj
    simp [Instr.indexAt, asIntOf, run_underlying hu, hj, run_sz hsz, Addr.add_lit]
   split at hv
   ·rename_i b o len cap k j he he'
    split at hv
    ·rename_i hj
     cases hv
     rw [he] at hr
     rw [he'] at hi
     obtain ⟨a', hc, _, h | rfl⟩ := rep_sl hr
     ·omega
     ·exact ⟨_, by simp only [execOp, hc, rep_int hi, Sem.run_bind, run b o len cap k j hj, Result.andThen_ok, Sem.run_pure], .ptr b _ (rep_slC hr (by omega))⟩
    ·cases hv
   ·rename_i cells len k j he he'
    split at hv
    ·rename_i hj
     cases hv
     rw [he] at hr
     rw [he'] at hi
     obtain ⟨a', cap, hc, _, h | ⟨b, o, cs, rfl, hb, hO, h1, h2⟩⟩ := rep_ro hr
     ·omega
     ·exact ⟨.pointer (some ⟨b, o + j.toNat * sz, none⟩), by simp only [execOp, hc, rep_int hi, Sem.run_bind, run b o len cap k j hj, Result.andThen_ok, Sem.run_pure], .cp cells _ b o cs hb hO h1 h2⟩
    ·cases hv
   ·cases hv
  ·cases ht
 case index t x i =>
  have hr := hx x (by simp [Op.operands])
  have hi := hx i (by simp [Op.operands])
  split at ht
  ·rename_i n e hu
   simp only [Option.bind_eq_bind, Option.bind_eq_some_iff, Option.some.injEq, K.r.injEq] at ht
   obtain ⟨sz, hsz, m, hm, rfl⟩ := ht
   simp only [evR] at hv
   split at hv
   ·rename_i cells k j he he'
    split at hv
    ·rename_i hj
     rw [he] at hr
     rw [he'] at hi
     obtain ⟨cs, c', hc, h1, h2⟩ := run_part_of (P := P) hr hv hm
     refine ⟨c', ?_, h2⟩
     simp [execOp, hc, rep_int hi, Instr.index, asIntOf, run_underlying hu, hj, run_sz hsz, h1]
    ·cases hv
   ·cases hv
  ·rename_i hu
   cases ht
   simp only [evR] at hv
   split at hv
   ·rename_i s k j he he'
    split at hv
    ·rename_i hj
     cases hv
     rw [he] at hr
     rw [he'] at hi
     have hlt : j.toNat < s.size := by omega
     have e2 : s.data.toList[j.toNat]?.getD 0 = s[j.toNat] := by
      have h2 : s.data.toList[j.toNat]? = some (s.data[j.toNat]'hlt) := by simp
      rw [h2]; rfl
     rw [e2]
     exact ⟨.int .u8 s[j.toNat].toNat, by simp [execOp, rep_str hr, rep_int hi, Instr.index, asIntOf, run_underlying hu, hj], .int _ _⟩
    ·cases hv
   ·cases hv
  ·cases ht
 case slice t x lo hi mx =>
  cases mx with
  | some m =>
   cases hi with
   | none => simp at ht
   | some hi =>
    have hr := hx x (by simp [Op.operands])
    have hlo : ∀ y, lo = some y → Rep w h.dom (xv G ρ y) (a.eval y) := fun y hy => hx y (by simp [Op.operands, hy])
    have hhi := hx hi (by simp [Op.operands])
    have hm := hx m (by simp [Op.operands])
    simp only at ht
    split at ht
    ·rename_i e hu
     obtain ⟨sz, hsz, hk⟩ := Option.map_eq_some_iff.1 ht
     cases hk
     simp only [evR] at hv
     split at hv
     ·rename_i c hc
      split at hv
      ·rename_i mm e0
       split at hv
       ·rename_i hh e1
        split at hv
        ·rename_i l e2
         have run : ∀ (p : Option Addr) (n cap : Nat), c ≤ cap → (Instr.sliceAt t (.slice p n cap) (lo.map a.eval) (some (a.eval hi)) (some (a.eval m))).run P w = .ok (.slice (if mm = l then p else p.map (·.add (l * sz))) (hh - l) (mm - l)) w := by
          intro p n cap hcap
          obtain ⟨rb, _, _⟩ := run_sliceBounds3 (P := P) (w := w) (isS := true) (len := n) hcap e0 e1 e2 hm hhi hlo
          simp [Instr.sliceAt, Instr.slice, run_underlying hu, rb, run_sz hsz]
         obtain ⟨_, q1, q2, q3⟩ := run_sliceBounds3 (P := P) (w := w) (isS := true) (len := 0) (Nat.le_refl c) e0 e1 e2 hm hhi hlo
         unfold aslice3 at hv
         split at hv
         ·rename_i b o n' cap he
          cases hv
          rw [he] at hr hc
          simp only [acap, Option.some.injEq] at hc
          subst hc
          obtain ⟨p, hc, hlc, hp⟩ := rep_sl hr
          refine ⟨.slice (if mm = l then some p else (some p).map (·.add (l * sz))) (hh - l) (mm - l), by simp only [execOp, hc, Option.map_some, Sem.run_bind, run (some p) n' cap (Nat.le_refl _), Result.andThen_ok, Sem.run_pure], ?_⟩
          by_cases hn : mm = l
          ·rw [show hh - l = 0 by omega, show mm - l = 0 by omega, if_pos hn]
           exact .sl0 _ _ _
          ·rw [if_neg hn]
           rcases hp with hp | rfl
           ·exact absurd hp.2 (by omega)
           ·simp only [Option.map_some, Addr.add_lit]
            exact .sl _ _ _ _ (by omega) (rep_slC hr (by omega))
         ·rename_i cells n' he
          cases hv
          rw [he] at hr hc
          simp only [acap, Option.some.injEq] at hc
          subst hc
          obtain ⟨p, cap, hc, hlc, hp⟩ := rep_ro hr
          refine ⟨.slice (if mm = l then p else p.map (·.add (l * sz))) (hh - l) (mm - l), by simp only [execOp, hc, Option.map_some, Sem.run_bind, run p n' cap hlc, Result.andThen_ok, Sem.run_pure], ?_⟩
          rcases hp with hp | ⟨b, o, cs, rfl, hb, hO, h1, h2⟩
          ·rw [hp.1, show hh - l = 0 by omega]
           simp only [List.drop_nil, List.take_nil]
           exact .roe _ _
          ·exact ro_part (by omega) hb hO h1 h2 (by
            by_cases hn : mm = l
            ·exact .inl (by omega)
            ·exact .inr (by rw [if_neg hn]; simp [Addr.add_lit]))
         ·rename_i he
          cases hv
          rw [he] at hr hc
          simp only [acap, Option.some.injEq] at hc
          subst hc
          refine ⟨.slice none 0 0, ?_, .nils⟩
          simp only [execOp, rep_nils hr, Option.map_some, Sem.run_bind, run none 0 0 (Nat.le_refl _), Result.andThen_ok, Sem.run_pure]
          rw [show hh - l = 0 by omega, show mm - l = 0 by omega]
          simp
         ·cases hv
        ·cases hv
       ·cases hv
      ·cases hv
     ·cases hv
    ·cases ht
  | none =>
   have hr := hx x (by simp [Op.operands])
   have hlo : ∀ y, lo = some y → Rep w h.dom (xv G ρ y) (a.eval y) := fun y hy => hx y (by simp [Op.operands, hy])
   have hhi : ∀ y, hi = some y → Rep w h.dom (xv G ρ y) (a.eval y) := fun y hy => hx y (by simp [Op.operands, hy])
   simp only at ht
   split at ht
   ·rename_i n e hu
    obtain ⟨sz, hsz, hk⟩ := Option.map_eq_some_iff.1 ht
    cases hk
    simp only [evR] at hv
    split at hv
    ·rename_i hh e1
     split at hv
     ·rename_i l e2
      obtain ⟨rb, hle, hle'⟩ := run_sliceBounds (P := P) (w := w) (isS := false) (Nat.le_refl n) e1 e2 hhi hlo
      have run : ∀ b o, (Instr.sliceAt t (.pointer (some ⟨b, o, none⟩)) (lo.map a.eval) (hi.map a.eval) none).run P w = .ok (.slice (some (if n = l then ⟨b, o, none⟩ else ⟨b, o + l * sz, none⟩)) (hh - l) (n - l)) w := by
       intro b o
       simp [Instr.sliceAt, run_underlying hu, Instr.sureAddr, rb, run_sz hsz, Addr.add_lit]
      split at hv
      ·rename_i b o he
       cases hv
       rw [he] at hr
       refine ⟨.slice (some (if n = l then ⟨b, o, none⟩ else ⟨b, o + l * sz, none⟩)) (hh - l) (n - l), by simp only [execOp, rep_ptr hr, Option.map_none, Sem.run_bind, run b o, Result.andThen_ok, Sem.run_pure], ?_⟩
       by_cases hn : n = l
       ·rw [show hh - l = 0 by omega, show n - l = 0 by omega]
        exact .sl0 _ _ _
       ·rw [if_neg hn]
        exact .sl _ _ _ _ (by omega) (rep_ptrC hr)
      ·rename_i cells o he
       cases hv
       rw [he] at hr
       obtain ⟨b, o', cs, hc, hb, hO, h1, h2⟩ := rep_cp hr
       refine ⟨.slice (some (if n = l then ⟨b, o' + o, none⟩ else ⟨b, o' + o + l * sz, none⟩)) (hh - l) (n - l), by simp only [execOp, hc, Option.map_none, Sem.run_bind, run b _, Result.andThen_ok, Sem.run_pure], ?_⟩
       exact ro_part (by omega) hb hO h1 h2 (by
        by_cases hn : n = l
        ·exact .inl (by omega)
        ·exact .inr (by rw [if_neg hn, Nat.add_assoc]))
      ·cases hv
     ·cases hv
    ·cases hv
   ·rename_i e hu
    obtain ⟨sz, hsz, hk⟩ := Option.map_eq_some_iff.1 ht
    cases hk
    simp only [evR] at hv
    split at hv
    ·rename_i n hn
     split at hv
     ·rename_i hh e1
      split at hv
      ·rename_i l e2
       have run : ∀ (p : Option Addr) (cap : Nat), n ≤ cap → (Instr.sliceAt t (.slice p n cap) (lo.map a.eval) (hi.map a.eval) none).run P w = .ok (.slice (if cap = l then p else p.map (·.add (l * sz))) (hh - l) (cap - l)) w := by
        intro p cap hcap
        obtain ⟨rb, _, _⟩ := run_sliceBounds (P := P) (w := w) (isS := true) hcap e1 e2 hhi hlo
        simp [Instr.sliceAt, Instr.slice, run_underlying hu, rb, run_sz hsz]
       obtain ⟨_, hle, hle'⟩ := run_sliceBounds (P := P) (w := w) (isS := true) (Nat.le_refl n) e1 e2 hhi hlo
       unfold aslice at hv
       split at hv
       ·rename_i b o n' cap he
        cases hv
        rw [he] at hr hn
        simp only [alen, Option.some.injEq] at hn
        subst hn
        obtain ⟨p, hc, hlc, hp⟩ := rep_sl hr
        refine ⟨.slice (if cap = l then some p else (some p).map (·.add (l * sz))) (hh - l) (cap - l), by simp only [execOp, hc, Option.map_none, Sem.run_bind, run (some p) cap hlc, Result.andThen_ok, Sem.run_pure], ?_⟩
        by_cases hn : cap = l
        ·rw [show hh - l = 0 by omega, show cap - l = 0 by omega, if_pos hn]
         exact .sl0 _ _ _
        ·rw [if_neg hn]
         rcases hp with hp | rfl
         ·exact absurd hp.2 (by omega)
         ·simp only [Option.map_some, Addr.add_lit]
          exact .sl _ _ _ _ (by omega) (rep_slC hr (by omega))
       ·rename_i cells n' he
        cases hv
        rw [he] at hr hn
        simp only [alen, Option.some.injEq] at hn
        subst hn
        obtain ⟨p, cap, hc, hlc, hp⟩ := rep_ro hr
        refine ⟨.slice (if cap = l then p else p.map (·.add (l * sz))) (hh - l) (cap - l), by simp only [execOp, hc, Option.map_none, Sem.run_bind, run p cap hlc, Result.andThen_ok, Sem.run_pure], ?_⟩
        rcases hp with hp | ⟨b, o, cs, rfl, hb, hO, h1, h2⟩
        ·rw [hp.1, show hh - l = 0 by omega]
         simp only [List.drop_nil, List.take_nil]
         exact .roe _ _
        ·exact ro_part (by omega) hb hO h1 h2 (by
          by_cases hn : cap = l
          ·exact .inl (by omega)
          ·exact .inr (by rw [if_neg hn]; simp [Addr.add_lit]))
       ·rename_i he
        cases hv
        rw [he] at hr hn
        simp only [alen, Option.some.injEq] at hn
        subst hn
        refine ⟨.slice none 0 0, ?_, .nils⟩
        simp only [execOp, rep_nils hr, Option.map_none, Sem.run_bind, run none 0 (Nat.le_refl _), Result.andThen_ok, Sem.run_pure]
        rw [show hh - l = 0 by omega]
        simp
       ·cases hv
      ·cases hv
     ·cases hv
    ·cases hv
   ·rename_i hu
    cases ht
    simp only [evR] at hv
    split at hv
    ·rename_i s he
     rw [he] at hr
     split at hv
     ·rename_i hh e1
      split at hv
      ·rename_i l e2
       cases hv
       obtain ⟨rb, _, _⟩ := run_sliceBounds (P := P) (w := w) (isS := false) (Nat.le_refl _) e1 e2 hhi hlo
       refine ⟨.string (s.extract l hh), ?_, .str _⟩
       simp [execOp, rep_str hr, Instr.sliceAt, Instr.slice, run_underlying hu, rb]
      ·cases hv
     ·cases hv
    ·cases hv
   ·cases ht
 case call c =>
  obtain ⟨callee, args, argTypes⟩ := c
  unfold trCall at ht
  cases callee with
  | value f =>
   cases f <;> simp only at ht <;> (try (cases ht; done))
   split at ht
   ·split at ht <;> cases ht
   ·cases ht
  | invoke r m => simp at ht
  | builtin b =>
   simp only at ht
   have hargs : ∀ y ∈ args.toList, Rep w h.dom (xv G ρ y) (a.eval y) := fun y hy => hx y (by simp [Op.operands, Call.operands]; simpa using hy)
   unfold trBuiltin at ht
   split at ht
   ·rename_i x t e1 e2
    have ea : args = #[x] := Array.toList_inj.1 (by simpa using e1)
    have et : argTypes = #[t] := Array.toList_inj.1 (by simpa using e2)
    subst ea
    subst et
    have hr := hargs x (by simp)
    have run : ∀ n, (Builtin.len_ #[t] type #[a.eval x]).run P w = .ok (goInt n) w → (execOp a.eval { dst, op := .call ⟨.builtin .len, #[x], #[t]⟩, type, pos, after, guard }).run P w = .ok (.value (.int .i64 n)) w := by
     intro n hn
     simp [execOp, resolve, invoke, builtin, hn, goInt]
    split at ht
    ·rename_i hu
     cases ht
     simp only [evR] at hv
     split at hv
     ·rename_i s he
      cases hv
      rw [he] at hr
      exact ⟨_, run s.size (by rw [rep_str hr]; simp [Builtin.len_, run_underlying hu, goInt]), .int _ _⟩
     ·cases hv
    ·rename_i e hu
     cases ht
     simp only [evR] at hv
     obtain ⟨n, hn, rfl⟩ := Option.map_eq_some_iff.1 hv
     refine ⟨_, run n ?_, .int _ _⟩
     have hl : ∃ p cap, a.eval x = .slice p n cap := by
      unfold alen at hn
      split at hn
      ·rename_i he
       cases hn
       rw [he] at hr
       obtain ⟨p, hc, _⟩ := rep_sl hr
       exact ⟨some p, _, hc⟩
      ·rename_i he
       cases hn
       rw [he] at hr
       obtain ⟨p, cap, hc, _⟩ := rep_ro hr
       exact ⟨p, cap, hc⟩
      ·rename_i he
       cases hn
       rw [he] at hr
       exact ⟨none, 0, rep_nils hr⟩
      ·cases hn
     obtain ⟨p, cap, hc⟩ := hl
     rw [hc]
     simp [Builtin.len_, run_underlying hu, goInt]
    ·rename_i n e hu
     cases ht
     cases hv
     refine ⟨_, run n ?_, .int _ _⟩
     simp [Builtin.len_, run_underlying hu, goInt]
    ·rename_i kt et hu
     cases ht
     simp only [evR] at hv
     obtain ⟨⟨es, tm⟩, hm, rfl⟩ := Option.map_eq_some_iff.1 hv
     refine ⟨_, run es.size ?_, .int _ _⟩
     rcases mapAt_sound hh hm hr with ⟨e, rfl⟩ | ⟨b, e, hb⟩
     ·rw [e]; simp [Builtin.len_, run_underlying hu, goInt]
     ·rw [e]; simp [Builtin.len_, run_underlying hu, MapKept.run_getObj_map hb, goInt]
    ·cases ht
   ·rename_i x y e1
    have ea : args = #[x, y] := Array.toList_inj.1 (by simpa using e1)
    subst ea
    cases ht
    simp only [evR] at hv
    split at hv
    ·rename_i k p k' q he he'
     cases hv
     have hrx := hargs x (by simp)
     have hry := hargs y (by simp)
     rw [he] at hrx
     rw [he'] at hry
     refine ⟨.int k (if q < p then q else p), ?_, .int _ _⟩
     simp [execOp, resolve, invoke, builtin, rep_int hrx, rep_int hry, Builtin.min_, Builtin.min2]
    ·cases hv
   ·rename_i x y e1
    have ea : args = #[x, y] := Array.toList_inj.1 (by simpa using e1)
    subst ea
    cases ht
    simp only [evR] at hv
    split at hv
    ·rename_i k p k' q he he'
     cases hv
     have hrx := hargs x (by simp)
     have hry := hargs y (by simp)
     rw [he] at hrx
     rw [he'] at hry
     refine ⟨.int k (if q > p then q else p), ?_, .int _ _⟩
     simp [execOp, resolve, invoke, builtin, rep_int hrx, rep_int hry, Builtin.max_, Builtin.max2]
    ·cases hv
   ·split at ht
    ·split at ht
     ·split at ht
      ·split at ht <;> cases ht
      ·cases ht
     ·cases ht
    ·split at ht
     ·split at ht
      ·split at ht <;> cases ht
      ·cases ht
     ·cases ht
    ·cases ht
   ·split at ht
    ·split at ht <;> cases ht
    ·cases ht
   ·obtain ⟨_, _, hk⟩ := Option.map_eq_some_iff.1 ht
    cases hk
   ·cases ht
 case lookup t x i ok =>
  split at ht
  ·rename_i k e hm
   obtain ⟨z, hz, hk⟩ := Option.map_eq_some_iff.1 ht
   cases hk
   simp only [evR] at hv
   split at hv
   ·rename_i es tm k' n h1 h2
    obtain ⟨r, hf, rfl⟩ := Option.map_eq_some_iff.1 hv
    have hri := hx i (by simp [Op.operands])
    rw [h2] at hri
    obtain ⟨c, hc, hr⟩ := lkp_sound hh hm hz (ok := ok) h1 hf (hx x (by simp [Op.operands]))
    exact ⟨c, by simp only [execOp, rep_int hri, Sem.run_bind, hc, Result.andThen_ok, Sem.run_pure], hr⟩
   ·cases hv
  ·cases ht
 case makeMap t r =>
  cases r
  ·simp only at ht
   split at ht <;> cases ht
  ·cases ht
 case mapUpdate t m i v =>
  obtain ⟨_, _, hk⟩ := Option.map_eq_some_iff.1 ht
  cases hk
 case insert t m i v =>
  obtain ⟨_, _, hk⟩ := Option.map_eq_some_iff.1 ht
  cases hk
 case makeSlice t x y =>
  split at ht
  ·split at ht
   ·split at ht
    ·split at ht <;> cases ht
    ·cases ht
   ·cases ht
  ·cases ht
 case alloc t => cases h' : zeroOf P t <;> simp [h'] at ht
 case store t x y => cases h' : szOf P t <;> simp [h'] at ht
 case buildSlice t n parts =>
  split at ht
  ·simp only [Option.bind_eq_bind, Option.bind_eq_some_iff] at ht
   obtain ⟨z, _, m, _, hk⟩ := ht
   split at hk <;> cases hk
  ·cases ht
 all_goals cases ht
end
end Go.Ab
end
section
namespace Go.Ab
section
variable {P : Program} {G : Glo} {w : World}
theorem own_lt {h : Heap} {b : Nat} {y : Blk} (hb : CRep w h b y ∨ ORep w b y) : b < w.heap.size := by
 rcases hb with ⟨c, t, h1, _⟩ | ⟨o, _, _, h1⟩
 ·exact (Array.getElem?_eq_some_iff.1 h1).1
 ·exact (Array.getElem?_eq_some_iff.1 h1).1
theorem own_keep {h h1 : Heap} {w1 : World} {b : Nat} {y : Blk} (hb : CRep w h b y ∨ ORep w b y) (he : w1.heap[b]? = w.heap[b]?) (hk : Keeps w h.dom w1 h1.dom) : CRep w1 h1 b y ∨ ORep w1 b y := by
 rcases hb with ⟨c, t, e1, e2, e3⟩ | ⟨o, e1, e2, e3⟩
 ·refine .inl ⟨c, t, he.trans e1, e2, fun i v hv => ?_⟩
  obtain ⟨cv, e4, e5, e6⟩ := e3 i v hv
  exact ⟨cv, e4, e5, e6.keep hk⟩
 ·exact .inr ⟨o, e1, e2, he.trans e3⟩
theorem isC_push {w1 : World} {o : Obj} (hw : w1.heap = w.heap.push o) (b : Nat) (hb : isC w b) : isC w1 b := by
 obtain ⟨c, t, f, e⟩ := hb
 have hlt := (Array.getElem?_eq_some_iff.1 e).1
 exact ⟨c, t, f, by rw [hw, Array.getElem?_push_lt hlt, ← Array.getElem?_eq_getElem hlt]; exact e⟩
theorem hrep_new_obj {h : Heap} (hh : HRep w h) {w1 : World} {o : Obj} (hw : w1.heap = w.heap.push o) (hsm : w1.os = w.os ∧ w1.tape = w.tape ∧ w1.output = w.output) {x : Blk}
  (hx : ∀ _ : Keeps w h.dom w1 (upd h w.heap.size x).dom, CRep w1 (upd h w.heap.size x) w.heap.size x ∨ ORep w1 w.heap.size x) :
  h w.heap.size = none ∧ HRep w1 (upd h w.heap.size x) ∧ Fr w h w1 (upd h w.heap.size x) := by
 have hn : h w.heap.size = none := by
  cases e : h w.heap.size with
  | none => rfl
  | some y => exact absurd (own_lt (hh _ y e)) (Nat.lt_irrefl _)
 have hf : Fr w h w1 (upd h w.heap.size x) := by
  refine ⟨by rw [hw]; simp, fun b hb e => ⟨?_, ?_⟩, isC_push hw, hsm.1, hsm.2.1, hsm.2.2⟩
  ·have : b ≠ w.heap.size := by omega
   simp [upd, this, e]
  ·rw [hw, Array.getElem?_push_lt hb, Array.getElem?_eq_getElem hb]
 refine ⟨hn, fun b y hy => ?_, hf⟩
 unfold upd at hy
 split at hy
 ·rename_i e
  cases hy
  subst e
  exact hx hf.keeps
 ·have hb := own_lt (hh b y hy)
  exact own_keep (hh b y hy) (by rw [hw, Array.getElem?_push_lt hb, ← Array.getElem?_eq_getElem hb]) hf.keeps
theorem hrep_alloc {h : Heap} (hh : HRep w h) {w1 : World} {c : Array Value} {t : TypeId} (hw : w1.heap = w.heap.push (.cells c t (0, 0))) (hsm : w1.os = w.os ∧ w1.tape = w.tape ∧ w1.output = w.output) {x : Blk} (hl : x.cells.length + x.spare = c.size)
  (hc : ∀ (i : Nat) (v : AV), x.cells[i]? = some v → ∃ cv, c[i]? = some cv ∧ cv.oneCell' = true ∧ Rep w h.dom v cv) :
  h w.heap.size = none ∧ HRep w1 (upd h w.heap.size x) ∧ Fr w h w1 (upd h w.heap.size x) := by
 refine hrep_new_obj hh hw hsm fun hk => .inl ⟨c, t, by rw [hw]; simp, hl, fun i v hv => ?_⟩
 obtain ⟨cv, h1, h2, h3⟩ := hc i v hv
 exact ⟨cv, h1, h2, h3.keep hk⟩
theorem setRow_other (w : World) (g : Nat) (cs : Array Value) {b : Nat} (hb : b ≠ g) : (w.setRow g cs).heap[b]? = w.heap[b]? := by
 unfold World.setRow
 simp only [Array.getElem?_modify]
 rw [if_neg (Ne.symm hb)]
theorem setRow_size (w : World) (g : Nat) (cs : Array Value) : (w.setRow g cs).heap.size = w.heap.size := by
 unfold World.setRow
 simp
theorem hrep_set {h : Heap} (hh : HRep w h) {b : Nat} {x0 x : Blk} (hb : h b = some x0) {c0 c : Array Value} {t : TypeId} (hw : w.heap[b]? = some (.cells c0 t (0, 0))) (hl : x.cells.length + x.spare = c.size)
  (hc : ∀ (i : Nat) (v : AV), x.cells[i]? = some v → ∃ cv, c[i]? = some cv ∧ cv.oneCell' = true ∧ Rep w h.dom v cv) :
  HRep (w.setRow b c) (upd h b x) ∧ Fr w h (w.setRow b c) (upd h b x) := by
 have hck : ∀ b', isC w b' → isC (w.setRow b c) b' := by
  intro b' hk
  by_cases e : b' = b
  ·subst e; exact ⟨c, t, (0, 0), setRow_heap w _ c0 c t _ hw⟩
  ·obtain ⟨c', t', f, e'⟩ := hk
   exact ⟨c', t', f, (setRow_other w b c e).trans e'⟩
 have hf : Fr w h (w.setRow b c) (upd h b x) := by
  refine ⟨by rw [setRow_size]; exact Nat.le_refl _, fun b' hb' e => ?_, hck, rfl, rfl, rfl⟩
  have hne : b' ≠ b := by rintro rfl; rw [hb] at e; cases e
  exact ⟨by simp [upd, hne, e], setRow_other w b c hne⟩
 refine ⟨fun b' y hy => ?_, hf⟩
 unfold upd at hy
 split at hy
 ·rename_i e
  cases hy
  subst e
  refine .inl ⟨c, t, setRow_heap w _ c0 c t _ hw, hl, fun i v hv => ?_⟩
  obtain ⟨cv, h1, h2, h3⟩ := hc i v hv
  exact ⟨cv, h1, h2, h3.keep hf.keeps⟩
 ·rename_i e
  exact own_keep (hh b' y hy) (setRow_other w b c e) hf.keeps
theorem hrep_put {h : Heap} (hh : HRep w h) {b : Nat} {o o' : Obj} (hb : h b = some ⟨[.raw o], 0⟩) (ho : o'.isCells = false) :
  HRep (w.putObj b o') (upd h b ⟨[.raw o'], 0⟩) ∧ Fr w h (w.putObj b o') (upd h b ⟨[.raw o'], 0⟩) := by
 obtain ⟨hw, hc⟩ := hh.obj hb
 have hlt := (Array.getElem?_eq_some_iff.1 hw).1
 have hck : ∀ b', isC w b' → isC (w.putObj b o') b' := by
  intro b' hk
  by_cases e : b' = b
  ·subst e; rw [isC_not hk hw] at hc; cases hc
  ·obtain ⟨c', t', f, e'⟩ := hk
   exact ⟨c', t', f, (World.putObj_heap_other e).trans e'⟩
 have hf : Fr w h (w.putObj b o') (upd h b ⟨[.raw o'], 0⟩) := by
  refine ⟨by simp [World.putObj], fun b' hb' e => ?_, hck, rfl, rfl, rfl⟩
  have hne : b' ≠ b := by rintro rfl; rw [hb] at e; cases e
  exact ⟨by simp [upd, hne, e], World.putObj_heap_other hne⟩
 refine ⟨fun b' y hy => ?_, hf⟩
 unfold upd at hy
 split at hy
 ·rename_i e
  cases hy
  subst e
  exact .inr ⟨o', rfl, ho, World.putObj_heap_same hlt⟩
 ·rename_i e
  exact own_keep (hh b' y hy) (World.putObj_heap_other e) hf.keeps
theorem mup_sound {h : Heap} (hh : HRep w h) {t : TypeId} {k : IntKind} {e : TypeId} (ht : mapOf P t = some (k, e)) {x i v : AV} {cx ci cv : Value} (hx : Rep w h.dom x cx) (hi : Rep w h.dom i ci) (hv : Rep w h.dom v cv)
  {Q : AV → Heap → Prop} (hs : mupQ k x i v h Q) : ∃ w' h', (Instr.mapUpdate t cx ci cv).run P w = .ok () w' ∧ Q (.tup []) h' ∧ HRep w' h' ∧ Fr w h w' h' := by
 unfold mupQ at hs
 split at hs
 ·rename_i b k' n c h1
  split at hs
  ·rename_i es tm hb
   have hb := mapK_eq hb
   have hc : cv = c := by
    unfold valM at h1
    split at h1 <;> cases h1
    ·exact rep_int hv
    ·exact rep_bool hv
    ·exact rep_str hv
    ·exact rep_mpp hv
   rw [rep_mpp hx, rep_int hi, hc]
   split at hs
   ·rename_i j val hf
    have hp := hrep_put hh hb (o' := .map (es.modify j fun e => { e with key := .int k' n, val := c }) tm) rfl
    exact ⟨_, _, run_mup ht (hh.obj hb).1 hf c, hs, hp.1, hp.2⟩
   ·rename_i hf
    have hp := hrep_put hh hb (o' := .map (es.push { key := .int k' n, val := c, born := tm }) (tm + 1)) rfl
    exact ⟨_, _, run_mup ht (hh.obj hb).1 hf c, hs, hp.1, hp.2⟩
   ·exact hs.elim
  ·exact hs.elim
 ·exact hs.elim
theorem dlt_sound {h : Heap} (hh : HRep w h) {t ty : TypeId} {k : IntKind} {e : TypeId} (ht : mapOf P t = some (k, e)) (ts : List TypeId) {x i : AV} {cx ci : Value} (hx : Rep w h.dom x cx) (hi : Rep w h.dom i ci)
  {Q : AV → Heap → Prop} (hs : dltQ k x i h Q) : ∃ w' h', (Builtin.delete_ (t :: ts).toArray ty #[cx, ci]).run P w = .ok (.tuple #[]) w' ∧ Q (.tup []) h' ∧ HRep w' h' ∧ Fr w h w' h' := by
 unfold dltQ at hs
 split at hs
 ·rename_i k' n
  rw [rep_mpp hx, rep_int hi]
  exact ⟨_, _, run_dlt0 ht _ _ ts, hs, hh, Fr.refl _ _⟩
 ·rename_i b k' n
  rw [rep_mpp hx, rep_int hi]
  split at hs
  ·rename_i es tm hb
   have hb := mapK_eq hb
   split at hs
   ·rename_i j val hf
    have hp := hrep_put hh hb (o' := .map (es.eraseIdxIfInBounds j) tm) rfl
    exact ⟨_, _, run_dlt ht (hh.obj hb).1 hf ts, hs, hp.1, hp.2⟩
   ·rename_i hf
    have hp := hrep_put hh hb (o' := .map es tm) rfl
    exact ⟨_, _, run_dlt ht (hh.obj hb).1 hf ts, hs, hp.1, hp.2⟩
   ·exact hs.elim
  ·exact hs.elim
 ·exact hs.elim
theorem hrep_less {h h' : Heap} (hh : HRep w h) (hle : ∀ b x, h' b = some x → h b = some x) : HRep w h' ∧ Fr w h w h' := by
 have hf : Fr w h w h' := by
  refine ⟨Nat.le_refl _, fun b _ e => ⟨?_, rfl⟩, fun _ h => h, rfl, rfl, rfl⟩
  cases e' : h' b with
  | none => rfl
  | some x => rw [hle b x e'] at e; cases e
 exact ⟨fun b x hx => own_keep (hh b x (hle b x hx)) rfl hf.keeps, hf⟩
theorem repl_get {O : Nat → Prop} {cells : List AV} {cs : List Value} (h : RepL w O cells cs) (h1 : ∀ v ∈ cs, v.oneCell' = true) (i : Nat) (v : AV) (hv : cells[i]? = some v) :
  ∃ cv, cs[i]? = some cv ∧ cv.oneCell' = true ∧ Rep w O v cv := by
 have hlt : i < cells.length := (List.getElem?_eq_some_iff.1 hv).1
 have hc : cs[i]? = some (cs[i]'(by have := h.1; omega)) := List.getElem?_eq_getElem _
 exact ⟨_, hc, h1 _ (List.getElem_mem _), h.2 i v _ hv hc⟩
theorem asto_sound {h h' : Heap} (hh : HRep w h) {n : Nat} {a v : AV} {t : TypeId} (ht : szOf P t = some n) {ca cv : Value} (hs : asto h n a (cellsOf v) = some h') (ha : Rep w h.dom a ca) (hv : Rep w h.dom v cv) :
  ∃ w', (Instr.storeAt t ca cv).run P w = .ok () w' ∧ HRep w' h' ∧ Fr w h w' h' := by
 unfold asto at hs
 split at hs
 ·rename_i b o cs hcs
  split at hs
  ·rename_i x hb
   split at hs
   ·rename_i hle
    cases hs
    obtain ⟨c, ty, hw, hsz, hc⟩ := hh.cells hb (rep_ptrC ha)
    obtain ⟨hr, h1⟩ := cellsOf_rep hv hcs
    have hlen : cv.cells.toList.length = n := by rw [← hr.1]; exact hle.1
    have hst := run_storeCells_at P b o ty cv.cells.toList 0 c w hw (by omega) h1
    obtain ⟨k1, k2⟩ := hrep_set hh hb (x := ⟨splice x.cells o cs, x.spare⟩) (c := (c.toList.take (o + 0) ++ cv.cells.toList ++ c.toList.drop (o + 0 + cv.cells.toList.length)).toArray) hw
     (by simp only [splice_length (show o + cs.length ≤ x.cells.length by omega)]; simp at hlen ⊢; omega) (fun i v hv => by
      rw [splice_get (by omega)] at hv
      simp only [Nat.add_zero]
      split at hv
      ·rename_i hi
       obtain ⟨cw, e1, e2, e3⟩ := repl_get hr h1 _ v hv
       refine ⟨cw, ?_, e2, e3⟩
       have : (List.take o c.toList ++ cv.cells.toList)[i]? = some cw := by
        rw [List.getElem?_append_right (by simp; omega)]
        simp only [List.length_take, Array.length_toList]
        rw [show min o c.size = o by omega]; exact e1
       have hlt : i < (List.take o c.toList ++ cv.cells.toList).length := (List.getElem?_eq_some_iff.1 this).1
       rw [List.getElem?_toArray, List.getElem?_append_left hlt]
       exact this
      ·rename_i hi
       obtain ⟨cw, e1, e2, e3⟩ := hc i v hv
       refine ⟨cw, ?_, e2, e3⟩
       have hic : i < c.size := (Array.getElem?_eq_some_iff.1 e1).1
       rw [List.getElem?_toArray]
       by_cases hlt : i < o
       ·rw [List.getElem?_append_left (by simp at hlen ⊢; omega), List.getElem?_append_left (by simp; omega), List.getElem?_take, if_pos hlt]
        simpa using e1
       ·rw [List.getElem?_append_right (by simp at hlen ⊢; omega), List.getElem?_drop]
        simp only [List.length_append, List.length_take, Array.length_toList]
        have e2 : o + cv.cells.size + (i - (min o c.size + cv.cells.size)) = i := by simp at hlen; omega
        simp only [Array.getElem?_toList]
        rw [e2]
        exact e1)
    refine ⟨_, ?_, k1, k2⟩
    rw [rep_ptr ha]
    have hsize : ¬ cv.cells.size ≠ n := by simp at hlen; omega
    simp only [Instr.storeAt, Instr.sureAddr, Sem.run_bind, Sem.run_pure, Result.andThen_ok, storeVar, run_sz ht, Sem.run_ite]
    rw [if_neg hsize]
    simpa using hst
   ·cases hs
  ·cases hs
 ·cases hs
theorem mkCells_eq (z : List AV) (n : Nat) : mkCells z n = (List.replicate n z).flatten := by
 match z with
 | [] => rfl
 | [v] =>
  show List.replicate n v = _
  induction n with
  | zero => rfl
  | succ n ih => rw [List.replicate_succ, List.replicate_succ, List.flatten_cons, ih]; rfl
 | _ :: _ :: _ => rfl
theorem mkCells_get {z : List AV} {n i : Nat} (hi : i < n * z.length) : (mkCells z n)[i]? = z[i % z.length]? := by
 rw [mkCells_eq]
 induction n generalizing i with
 | zero => omega
 | succ n ih =>
  rw [List.replicate_succ, List.flatten_cons]
  by_cases h : i < z.length
  ·rw [List.getElem?_append_left h, Nat.mod_eq_of_lt h]
  ·rw [List.getElem?_append_right (by omega), ih (by rw [Nat.succ_mul] at hi; omega), ← Nat.mod_eq_sub_mod (by omega)]
theorem mkCells_length (z : List AV) (n : Nat) : (mkCells z n).length = n * z.length := by
 rw [mkCells_eq, List.length_flatten]
 simp
theorem addedBy_first {h : Heap} (hh : HRep w h) {sz m : Nat} {y : AV} {cs : List AV} (hy : addedBy h sz y = some (m, cs)) {c : Value} (hr : Rep w h.dom y c) {k : Nat} (hk : k ≤ m) :
  cs.length = m * sz ∧ (Builtin.lenOf c).run P w = .ok m w ∧ ∃ news : List Value, RepL w h.dom (cs.take (k * sz)) news ∧ (∀ v ∈ news, v.oneCell' = true) ∧ (Builtin.firstCells sz k c).run P w = .ok news.toArray w := by
 have hks : k * sz ≤ m * sz := Nat.mul_le_mul_right _ hk
 unfold addedBy at hy
 split at hy
 ·cases hy
  obtain rfl : k = 0 := by omega
  rw [rep_nils hr]
  exact ⟨by simp, by simp [Builtin.lenOf], [], by simpa using RepL.nil, by simp, by simp [Builtin.firstCells]⟩
 ·rename_i cells n
  split at hy
  ·rename_i hl
   cases hy
   obtain ⟨p, cap, hc, _, hp⟩ := rep_ro hr
   rw [hc]
   refine ⟨hl, by simp [Builtin.lenOf], ?_⟩
   rcases hp with ⟨rfl, rfl⟩ | ⟨b, o, f, rfl, hb, hO, h1, h2⟩
   ·obtain rfl : k = 0 := by omega
    refine ⟨[], by simpa using RepL.nil, by simp, ?_⟩
    cases p with
    | none => simp [Builtin.firstCells]
    | some p => simp [Builtin.firstCells, loadCells, loadCellsFrom]
   ·have hat : At w h.dom b o cs := fun i v hv => ⟨f i, (h1 i v hv).1, (h1 i v hv).2, h2 i v hv⟩
    obtain ⟨news, e1, e2, e3, e4⟩ := (hat.take (k * sz)).list
    refine ⟨news, e4, e3, ?_⟩
    exact run_firstCells_some w sz k _ _ _ news (by rw [e1, List.length_take]; omega) fun j v hv => by
     rw [Addr.add_lit]
     exact e2 j v hv
  ·cases hy
 ·rename_i b o n cap
  split at hy
  ·rename_i x hb
   split at hy
   ·rename_i hle
    cases hy
    obtain ⟨p, hc, hlc, hp⟩ := rep_sl hr
    have hcl : ((x.cells.drop o).take (m * sz)).length = m * sz := by simp; omega
    rw [hc]
    refine ⟨hcl, by simp [Builtin.lenOf], ?_⟩
    have hat : At w h.dom b (0 + o) (((x.cells.drop o).take (m * sz)).take (k * sz)) := by
     by_cases h0 : m = 0 ∧ cap = 0
     ·rw [h0.1, Nat.zero_mul, List.take_zero, List.take_nil]; intro i v hv; cases hv
     ·exact (((hh.at hb (rep_slC hr h0)).drop o).take _).take _
    obtain ⟨news, e1, e2, e3, e4⟩ := hat.list
    have hnl : news.length = k * sz := by rw [e1, List.length_take, hcl]; omega
    refine ⟨news, e4, e3, ?_⟩
    rcases hp with ⟨rfl, rfl⟩ | rfl
    ·obtain rfl : k = 0 := by omega
     have : news = [] := List.eq_nil_of_length_eq_zero (by rw [hnl]; simp)
     subst this
     simp [Builtin.firstCells, loadCells, loadCellsFrom]
    ·exact run_firstCells_some w sz k _ _ _ news hnl fun j v hv => by
      rw [Addr.add_lit]
      have := e2 j v hv
      rw [Nat.zero_add] at this
      exact this
   ·cases hy
  ·cases hy
 ·rename_i s
  split at hy
  ·rename_i h1
   cases hy
   subst h1
   rw [rep_str hr]
   have hdl : s.data.toList.length = s.size := by simp
   refine ⟨by simp, by simp [Builtin.lenOf], (s.data.toList.take k).map fun c => .int .u8 c.toNat, ⟨by simp, fun i a v ha hv => ?_⟩, fun v hv => (by obtain ⟨c, _, rfl⟩ := List.mem_map.1 hv; rfl), ?_⟩
   ·rw [Nat.mul_one, ← List.map_take] at ha
    simp only [List.getElem?_map, Option.map_eq_some_iff] at ha hv
    obtain ⟨c, h1, rfl⟩ := ha
    obtain ⟨d, h2, rfl⟩ := hv
    rw [h1] at h2
    cases h2
    exact .int _ _
   ·simp only [Builtin.firstCells, Sem.run_pure]
    congr 1
    apply Array.ext'
    rw [ByteArray.data_extract]
    simp
  ·cases hy
 ·cases hy
theorem cpy_sound {h : Heap} (hh : HRep w h) {e : TypeId} {t u ty : TypeId} (ht : P.underlying t = some (.slice e)) {sz : Nat} (hsz : szOf P e = some sz)
  {x y : AV} {cx cy : Value} (hrx : Rep w h.dom x cx) (hry : Rep w h.dom y cy)
  {m : Nat} {cs : List AV} (hy : addedBy h sz y = some (m, cs)) {Q : AV → Heap → Prop} (hs : cpyQ sz m cs x h Q) :
  ∃ c w' av h', (Builtin.copy_ #[t, u] ty #[cx, cy]).run P w = .ok c w' ∧ Q av h' ∧ HRep w' h' ∧ Rep w' h'.dom av c ∧ Fr w h w' h' := by
 unfold cpyQ at hs
 cases x <;> simp only at hs
 case nils =>
  obtain ⟨_, hl, news, _, _, hf⟩ := addedBy_first (P := P) hh hy hry (Nat.zero_le m)
  rw [rep_nils hrx]
  refine ⟨.int .i64 0, w, _, h, ?_, hs, hh, .int _ _, Fr.refl _ _⟩
  simp only [Builtin.copy_, Sem.run_bind, Result.andThen_ok, run_underlying ht, hl, run_sz hsz, List.getElem?_toArray, List.getElem?_cons_zero, List.getElem?_cons_succ]
  simp [hf, goInt]
 case sl b o n cap =>
  split at hs
  ·exact hs.elim
  ·rename_i k hb
   obtain ⟨hle, hq⟩ := hs
   obtain ⟨hcl, hl, news, hr, h1, hf⟩ := addedBy_first (P := P) hh hy hry (Nat.min_le_left m n)
   obtain ⟨p, hc, hlc, hp⟩ := rep_sl hrx
   subst hc
   by_cases hz0 : n = 0 ∧ cap = 0
   ·obtain ⟨rfl, rfl⟩ := hz0
    have hnil : news = [] := List.eq_nil_of_length_eq_zero (by rw [← hr.1]; simp)
    subst hnil
    have he : upd h b ⟨splice k.cells o (cs.take (min m 0 * sz)), k.spare⟩ = h := by
     funext d
     simp only [upd]
     split
     ·rename_i e; rw [e, hb, Nat.min_zero, Nat.zero_mul, List.take_zero]; simp [splice]
     ·rfl
    rw [he] at hq
    refine ⟨.int .i64 ((min m 0 : Nat) : Int), w, _, h, ?_, hq, hh, .int _ _, Fr.refl _ _⟩
    simp only [Builtin.copy_, Sem.run_bind, Result.andThen_ok, run_underlying ht, hl, run_sz hsz, List.getElem?_toArray, List.getElem?_cons_zero, List.getElem?_cons_succ]
    rw [show Nat.min m 0 = min m 0 from rfl, hf]
    simp [storeCells, goInt]
   obtain ⟨c, ty', hw, hsize, hcc⟩ := hh.cells hb (rep_slC hrx hz0)
   have hms : min m n * sz ≤ m * sz := Nat.mul_le_mul_right _ (Nat.min_le_left _ _)
   have hns : min m n * sz ≤ n * sz := Nat.mul_le_mul_right _ (Nat.min_le_right _ _)
   have hnl : news.length = min m n * sz := by rw [← hr.1, List.length_take]; omega
   have hst := run_storeCells_at P b o ty' news 0 c w hw (by omega) h1
   simp only [Nat.add_zero] at hst
   have htl : (cs.take (min m n * sz)).length = news.length := hr.1
   obtain ⟨k1, k2⟩ := hrep_set hh hb (x := ⟨splice k.cells o (cs.take (min m n * sz)), k.spare⟩) (c := (c.toList.take o ++ news ++ c.toList.drop (o + news.length)).toArray) hw
    (by simp only [splice_length (show o + (cs.take (min m n * sz)).length ≤ k.cells.length by omega), List.length_append, List.size_toArray, List.length_take, List.length_drop, Array.length_toList]; omega) (fun i v hv => by
     rw [splice_get (by omega)] at hv
     rw [List.getElem?_toArray]
     split at hv
     ·rename_i hi
      obtain ⟨cw, e1, e2, e3⟩ := repl_get hr h1 _ v hv
      have hlt := (List.getElem?_eq_some_iff.1 e1).1
      refine ⟨cw, ?_, e2, e3⟩
      rw [List.getElem?_append_left (by simp; omega), List.getElem?_append_right (by simp; omega)]
      simp only [List.length_take, Array.length_toList]
      rw [show min o c.size = o by omega]; exact e1
     ·rename_i hi
      obtain ⟨cw, e1, e2, e3⟩ := hcc i v hv
      refine ⟨cw, ?_, e2, e3⟩
      have hic : i < c.size := (Array.getElem?_eq_some_iff.1 e1).1
      by_cases hlt : i < o
      ·rw [List.getElem?_append_left (by simp; omega), List.getElem?_append_left (by simp; omega), List.getElem?_take, if_pos hlt]
       simpa using e1
      ·rw [List.getElem?_append_right (by simp; omega), List.getElem?_drop]
       simp only [List.length_append, List.length_take, Array.length_toList]
       rw [show o + news.length + (i - (min o c.size + news.length)) = i by omega]
       simpa using e1)
   refine ⟨.int .i64 ((min m n : Nat) : Int), _, _, _, ?_, hq, k1, .int _ _, k2⟩
   simp only [Builtin.copy_, Sem.run_bind, Result.andThen_ok, run_underlying ht, hl, run_sz hsz, List.getElem?_toArray, List.getElem?_cons_zero, List.getElem?_cons_succ]
   rw [show Nat.min m n = min m n from rfl, hf]
   rcases hp with ⟨rfl, rfl⟩ | rfl
   ·have hnil : news = [] := List.eq_nil_of_length_eq_zero (by rw [hnl]; simp)
    subst hnil
    simp only [List.append_nil, List.length_nil, Nat.add_zero, List.take_append_drop, Array.toArray_toList]
    rw [setRow_self w b c ty' (0, 0) hw]
    simp [storeCells, goInt]
   ·simp [hst, goInt]
theorem mks_sound {h : Heap} (hh : HRep w h) {e t : TypeId} (ht : P.underlying t = some (.slice e)) {i : TypeInfo} (hi : P.info? e = some i) {z : List AV} (hz : zeroOf P e = some z)
  (hzl : z.length = i.size) (h0 : 0 < i.size) {x y : AV} {cx cy : Value} (hrx : Rep w h.dom x cx) (hry : Rep w h.dom y cy) {Q : AV → Heap → Prop} (hs : mksQ i.bytes z x y h Q) :
  ∃ c w' av h', (Instr.makeSlice t cx cy).run P w = .ok c w' ∧ Q av h' ∧ HRep w' h' ∧ Rep w' h'.dom av c ∧ Fr w h w' h' := by
 unfold mksQ at hs
 split at hs
 ·rename_i k l k' c
  obtain ⟨hl0, hlc, hb, h63, hq⟩ := hs
  rw [rep_int hrx, rep_int hry]
  obtain ⟨L, rfl⟩ : ∃ L : Nat, l = L := ⟨l.toNat, by omega⟩
  obtain ⟨C, rfl⟩ : ∃ C : Nat, c = C := ⟨c.toNat, by omega⟩
  obtain ⟨zv, hzero, hzr⟩ := zero_rep (w := w) (O := h.dom) hz
  obtain ⟨zc, hzc, hzs, ho, hr⟩ := rep_agg hzr
  cases hzc
  have hsz : szOf P e = some i.size := by simp [szOf, hi]
  have hzn : zv.cells.size = i.size := by omega
  have wl : IntKind.i64.wrap (L : Int) = L := by rw [IntKind.wrap_i64]; omega
  have wc : IntKind.i64.wrap (C : Int) = C := by rw [IntKind.wrap_i64]; omega
  have hb' : (i.bytes : Int) * C = ((C * i.bytes : Nat) : Int) := by rw [Int.mul_comm]; simp
  have hbn : C * i.bytes ≤ 140737488355328 := by
   have : ((C * i.bytes : Nat) : Int) ≤ 140737488355328 := by simpa using hb
   omega
  have n1 : ¬ ((C : Int) < 0) := by omega
  have n2 : ¬ ((i.bytes : Int) * C > 281474976710656) := by rw [hb']; omega
  have n3 : ¬ ((L : Int) < 0) := by omega
  have n4 : ¬ ((L : Int) > C) := by omega
  have n5 : ¬ (C * i.bytes > roomBytes) := by simp [roomBytes]; omega
  have hLC : L ≤ C := by omega
  have hLCs : L * i.size ≤ C * i.size := Nat.mul_le_mul_right _ hLC
  have hal := hrep_alloc hh (w1 := w.alloc (.cells ((Array.range (C * i.size)).map (zv.cells[· % zv.cells.size]!)) e)) (x := ⟨mkCells z L, (C - L) * z.length⟩) rfl ⟨rfl, rfl, rfl⟩
   (by simp only [mkCells_length, hzl, Array.size_map, Array.size_range]; rw [← Nat.add_mul, Nat.add_sub_cancel' hLC]) (fun j v hv => by
    have hj : j < L * z.length := by
     have := (List.getElem?_eq_some_iff.1 hv).1
     rwa [mkCells_length] at this
    have hj' : j < L * i.size := by rw [hzl] at hj; exact hj
    rw [mkCells_get hj] at hv
    have hlt : j % zv.cells.size < zv.cells.size := Nat.mod_lt _ (by omega)
    rw [hzl, ← hzn] at hv
    refine ⟨zv.cells[j % zv.cells.size]!, ?_, ?_, ?_⟩
    ·simp only [Array.getElem?_map]
     rw [Array.getElem?_range, if_pos (by omega)]
     rfl
    ·rw [getElem!_pos zv.cells _ hlt]; exact ho _ _ (Array.getElem?_eq_getElem hlt)
    ·rw [getElem!_pos zv.cells _ hlt]; exact hr _ _ _ hv (Array.getElem?_eq_getElem hlt))
  have hq' := hq w.heap.size hal.1
  simp only [Int.toNat_natCast] at hq'
  rw [show ((C : Int) - (L : Int)).toNat = C - L by omega] at hq'
  refine ⟨.slice (some ⟨w.heap.size, 0, none⟩) L C, _, _, _, ?_, hq', hal.2.1, .sl _ _ _ _ hLC ⟨_, _, _, World.alloc_heap_new w _⟩, hal.2.2⟩
  have fin : ∀ zc : Array Value, (Array.range (C * i.size)).map (zc[· % zc.size]!) = (Array.range (C * i.size)).map (zv.cells[· % zv.cells.size]!) →
    (do let a ← newRow e ((Array.range (C * i.size)).map (zc[· % zc.size]!)); pure (.slice (some a) (L : Int).toNat (C : Int).toNat) : Sem Value).run P w = .ok (.slice (some ⟨w.heap.size, 0, none⟩) L C) (w.alloc (.cells ((Array.range (C * i.size)).map (zv.cells[· % zv.cells.size]!)) e)) := by
   intro zc hzc
   rw [hzc]
   simp [newRow]
  by_cases e0 : C * i.size = 0
  ·have := fin #[] (by rw [e0]; simp)
   simp only [Instr.makeSlice, Sem.run_bind, run_underlying ht, Result.andThen_ok, asInt, asIntOf, Sem.run_pure, run_typeInfo w hi, wl, wc, Sem.run_ite]
   rw [if_neg (by simp; omega)]
   simp only [askRoom, Int.toNat_natCast, if_neg n5, Sem.run_pure, Result.andThen_ok, run_sz hsz, if_pos e0]
   simpa using this
  ·have := fin zv.cells rfl
   simp only [Instr.makeSlice, Sem.run_bind, run_underlying ht, Result.andThen_ok, asInt, asIntOf, Sem.run_pure, run_typeInfo w hi, wl, wc, Sem.run_ite]
   rw [if_neg (by simp; omega)]
   simp only [askRoom, Int.toNat_natCast, if_neg n5, Sem.run_pure, Result.andThen_ok, run_sz hsz, if_neg e0, hzero]
   simpa using this
 ·exact hs.elim
theorem repl_map {O : Nat → Prop} {ρ : Env} {a : Act} {args : List Operand} (hx : ∀ x ∈ args, Rep w O (xv G ρ x) (a.eval x)) : RepL w O (args.map (xv G ρ)) (args.map a.eval) := by
 induction args with
 | nil => exact .nil
 | cons x r ih => exact .cons (hx x (by simp)) (ih fun y hy => hx y (by simp [hy]))
theorem RepL.append {O : Nat → Prop} {as bs : List AV} {vs us : List Value} (h : RepL w O as vs) (h' : RepL w O bs us) : RepL w O (as ++ bs) (vs ++ us) := by
 refine ⟨by simp [h.1, h'.1], fun i a v ha hv => ?_⟩
 by_cases hi : i < as.length
 ·rw [List.getElem?_append_left hi] at ha
  rw [List.getElem?_append_left (by have := h.1; omega)] at hv
  exact h.2 i a v ha hv
 ·rw [List.getElem?_append_right (by omega)] at ha
  rw [List.getElem?_append_right (by have := h.1; omega)] at hv
  exact h'.2 _ a v ha (by rw [h.1]; exact hv)
theorem run_app_room (t u ty e : TypeId) (i : TypeInfo) (ht : P.underlying t = some (.slice e)) (hu : (∃ e', P.underlying u = some (.slice e')) ∨ P.underlying u = some .string) (hi : P.info? e = some i)
  (base : Option Addr) (sLen sCap m : Nat) (x : Value) (news : List Value) (hlen : (Builtin.lenOf x).run P w = .ok m w) (hfc : (Builtin.firstCells i.size m x).run P w = .ok news.toArray w) (hroom : sLen + m ≤ sCap) {w' : World}
  (hst : ∀ a, base = some a → (storeCells (a.add (sLen * i.size)) news).run P w = .ok () w') (hno : base = none → w' = w) :
  (Builtin.append_ #[t, u] ty #[.slice base sLen sCap, x]).run P w = .ok (.slice base (sLen + m) sCap) w' := by
 cases base with
 | none =>
  rw [hno rfl]
  rcases hu with ⟨e', hu⟩ | hu <;>
   simp [Builtin.append_, run_underlying ht, run_underlying hu, sizeOf, typeInfo, hi, hlen, hroom, hfc]
 | some a =>
  have h := hst a rfl
  rcases hu with ⟨e', hu⟩ | hu <;>
   simp [Builtin.append_, run_underlying ht, run_underlying hu, sizeOf, typeInfo, hi, hlen, hroom, hfc, h]
theorem run_app_grow (t u ty e : TypeId) (i : TypeInfo) (z : Value) (ht : P.underlying t = some (.slice e)) (hu : (∃ e', P.underlying u = some (.slice e')) ∨ P.underlying u = some .string) (hi : P.info? e = some i) (hz : i.zero = some z)
  (base : Option Addr) (sLen sCap m : Nat) (x : Value) (olds news : List Value) (hlen : (Builtin.lenOf x).run P w = .ok m w)
  (hold : (Builtin.firstCells i.size sLen (.slice base sLen sCap)).run P w.drew = .ok olds.toArray w.drew)
  (hfc : (Builtin.firstCells i.size m x).run P w.drew = .ok news.toArray w.drew) (hg : sCap < sLen + m) (h63 : sLen + m ≤ 9223372036854775807) (hfit : (sLen + m) * i.bytes ≤ 140737488355328) :
  (Builtin.append_ #[t, u] ty #[.slice base sLen sCap, x]).run P w =
   .ok (.slice (some ⟨w.heap.size, 0, none⟩) (sLen + m) (grownCap w (sLen + m) sCap e))
    (w.drew.alloc (.cells (olds.toArray ++ news.toArray ++ Builtin.zeroCells z.cells (grownCap w (sLen + m) sCap e - (sLen + m))) e)) := by
 have hn : ¬ (sLen + m ≤ sCap) := by omega
 have h63' : ¬ (9223372036854775807 < ((sLen : Int) + (m : Int))) := by omega
 have h48 : Builtin.nextslicecap (sLen + m) sCap * i.bytes ≤ 281474976710656 := growslice_fits hg hfit
 have h48' : ¬ (281474976710656 < Builtin.nextslicecap (sLen + m) sCap * i.bytes) := by omega
 rcases hu with ⟨e', hu⟩ | hu
 ·simp [Builtin.append_, run_underlying ht, run_underlying hu, sizeOf, typeInfo, zeroValue, hi, hz, hlen, hn, h63', h48', Question.forced, hfc, hold, newRow, grownCap]
  congr 2
  apply Array.ext'
  simp [List.append_assoc]
 ·simp [Builtin.append_, run_underlying ht, run_underlying hu, sizeOf, typeInfo, zeroValue, hi, hz, hlen, hn, h63', h48', Question.forced, hfc, hold, newRow, grownCap]
  congr 2
  apply Array.ext'
  simp [List.append_assoc]
end
end Go.Ab
end
section
namespace Go.Ab
section
variable {P : Program} {G : Glo} {w : World}
theorem app_sound {h : Heap} (hh : HRep w h) {e : TypeId} {i : TypeInfo} {z : Value} {t u ty : TypeId} (ht : P.underlying t = some (.slice e)) (hu : (∃ e', P.underlying u = some (.slice e')) ∨ P.underlying u = some .string)
  (hi : P.info? e = some i) (hz : i.zero = some z) (hzs : z.cells.size = i.size) {x y : AV} {cx cy : Value} (hrx : Rep w h.dom x cx) (hry : Rep w h.dom y cy)
  {m : Nat} {cs : List AV} (hy : addedBy h i.size y = some (m, cs)) {Q : AV → Heap → Prop}
  (hs : appQ i.size i.bytes m cs x h Q) :
  ∃ c w' av h', (Builtin.append_ #[t, u] ty #[cx, cy]).run P w = .ok c w' ∧ Q av h' ∧ HRep w' h' ∧ Rep w' h'.dom av c ∧ Fr w h w' h' := by
 obtain ⟨hcs, news, hrn, hn1, hlen, hfc⟩ := addedBy_sound (P := P) hh hy hry
 have hnl : news.length = m * i.size := by rw [← hrn.1]; exact hcs
 have hzl : ∀ k, (Builtin.zeroCells z.cells k).size = k * i.size := fun k => by rw [size_zeroCells, hzs]
 unfold appQ at hs
 cases x <;> simp only at hs
 case nils =>
  obtain ⟨hb, h63, h0, h1⟩ := hs
  rw [rep_nils hrx]
  by_cases hm : m = 0
  ·subst hm
   refine ⟨.slice none 0 0, w, .nils, h, ?_, h0 rfl, hh, .nils, Fr.refl _ _⟩
   have := run_app_room (P := P) (w := w) (w' := w) t u ty e i ht hu hi none 0 0 0 cy news hlen (hfc w rfl) (Nat.le_refl _) (fun a ha => by cases ha) (fun _ => rfl)
   simpa using this
  ·have hrun := run_app_grow (P := P) (w := w) t u ty e i z ht hu hi hz none 0 0 m cy [] news hlen (by simp [Builtin.firstCells]) (hfc w.drew rfl) (by omega) (by omega) (by rw [Nat.zero_add]; exact hb)
   simp only [Nat.zero_add] at hrun
   have hge := grownCap_ge w m 0 e
   generalize grownCap w m 0 e = cap at hrun hge
   have hal := hrep_alloc hh (w1 := w.drew.alloc (.cells (#[] ++ news.toArray ++ Builtin.zeroCells z.cells (cap - m)) e)) (x := ⟨cs, (cap - m) * i.size⟩) rfl ⟨rfl, rfl, rfl⟩ (by simp [hzl, hrn.1]) (fun j v hv => by
    obtain ⟨cv, k1, k2, k3⟩ := repl_get hrn hn1 j v hv
    refine ⟨cv, ?_, k2, k3⟩
    have hlt : j < news.length := (List.getElem?_eq_some_iff.1 k1).1
    rw [Array.getElem?_append_left (by simpa using hlt)]
    simpa using k1)
   exact ⟨_, _, _, _, hrun, h1 (by omega) w.heap.size cap hal.1 hge, hal.2.1, .sl _ _ _ _ hge ⟨_, _, _, World.alloc_heap_new w.drew _⟩, hal.2.2⟩
 case sl b o n cap =>
  split at hs
  ·exact hs.elim
  ·rename_i x hb
   obtain ⟨h1, h2, hbytes, h63, hq⟩ := hs
   obtain ⟨p, hcx, hlc, hp⟩ := rep_sl hrx
   subst hcx
   have hblt := own_lt (hh b x hb)
   by_cases hroom : n + m ≤ cap
   ·by_cases hz0 : n = 0 ∧ cap = 0
    ·obtain ⟨rfl, rfl⟩ := hz0
     obtain rfl : m = 0 := by omega
     have hnil : news = [] := List.eq_nil_of_length_eq_zero (by omega)
     have hcn : cs = [] := List.eq_nil_of_length_eq_zero (by omega)
     subst hnil
     subst hcn
     have hQ := hq b (x.cells.take o) 0 x.spare (.inl rfl) (by omega)
     have ho : o ≤ x.cells.length := by omega
     rw [List.append_nil, List.take_append_drop, show (x.cells.take o).length = o by simp; omega] at hQ
     have heq : upd (era h b) b ⟨x.cells, x.spare⟩ = h := by
      funext b'
      simp only [upd, era]
      split
      ·rename_i e; rw [e, hb]
      ·rfl
     rw [heq] at hQ
     refine ⟨_, _, _, _, run_app_room (P := P) (w := w) t u ty e i ht hu hi (some p) 0 0 0 cy [] hlen (hfc w rfl) hroom (w' := w) (fun a ha => ?_) (fun hp0 => by cases hp0), hQ, hh, .sl0 _ _ _, Fr.refl _ _⟩
     cases ha
     simp [storeCells]
    obtain ⟨c, ty', hw, hsz, hc⟩ := hh.cells hb (rep_slC hrx hz0)
    have hfit : (n + m) * i.size ≤ cap * i.size := Nat.mul_le_mul_right _ hroom
    rw [Nat.add_mul] at hfit
    have hst := run_storeCells_at P b (o + n * i.size) ty' news 0 c w hw (by omega) hn1
    simp only [Nat.add_zero] at hst
    obtain ⟨k1, k2⟩ := hrep_set hh hb (x := ⟨x.cells ++ cs, x.spare - m * i.size⟩) (c := (c.toList.take (o + n * i.size) ++ news ++ c.toList.drop (o + n * i.size + news.length)).toArray) hw
     (by simp only [List.length_append, List.size_toArray, List.length_take, List.length_drop, Array.length_toList]; omega) (fun j v hv => by
      by_cases hj : j < x.cells.length
      ·rw [List.getElem?_append_left hj] at hv
       obtain ⟨cv, e1, e2, e3⟩ := hc j v hv
       refine ⟨cv, ?_, e2, e3⟩
       rw [List.getElem?_toArray, List.getElem?_append_left (by simp; omega), List.getElem?_append_left (by simp; omega), List.getElem?_take, if_pos (by omega)]
       simpa using e1
      ·rw [List.getElem?_append_right (by omega)] at hv
       obtain ⟨cv, e1, e2, e3⟩ := repl_get hrn hn1 _ v hv
       have hlt := (List.getElem?_eq_some_iff.1 e1).1
       refine ⟨cv, ?_, e2, e3⟩
       rw [List.getElem?_toArray, List.getElem?_append_left (by simp; omega), List.getElem?_append_right (by simp; omega)]
       simp only [List.length_take, Array.length_toList]
       rw [show min (o + n * i.size) c.size = x.cells.length by omega]
       exact e1)
    have hQ := hq b (x.cells.take o) cap (x.spare - m * i.size) (.inl rfl) (by rw [Nat.add_mul]; omega)
    have ho : o ≤ x.cells.length := by omega
    rw [List.take_append_drop, show (x.cells.take o).length = o by simp; omega] at hQ
    have heq : upd (era h b) b ⟨x.cells ++ cs, x.spare - m * i.size⟩ = upd h b ⟨x.cells ++ cs, x.spare - m * i.size⟩ := by
     funext b'
     simp only [upd, era]
     split <;> rfl
    rw [heq] at hQ
    refine ⟨_, _, _, _, run_app_room (P := P) (w := w) t u ty e i ht hu hi (some p) n cap m cy news hlen (hfc w rfl) hroom (w' := w.setRow b _) (fun a ha => ?_) (fun hp0 => by cases hp0), hQ, k1, ?_, k2⟩
    ·cases ha
     rcases hp with ⟨rfl, rfl⟩ | rfl
     ·have hm : m = 0 := by omega
      subst hm
      have hnil : news = [] := List.eq_nil_of_length_eq_zero (by omega)
      subst hnil
      simp only [Nat.zero_mul, Nat.add_zero, List.append_nil, List.length_nil, List.take_append_drop, Array.toArray_toList]
      rw [setRow_self w b c ty' (0, 0) hw]
      simp [storeCells]
     ·rw [Addr.add_lit]
      exact hst
    ·rcases hp with ⟨rfl, rfl⟩ | rfl
     ·have hm : m = 0 := by omega
      subst hm
      exact .sl0 _ _ _
     ·exact .sl _ _ _ _ hroom (k2.cel _ (rep_slC hrx hz0))
   ·-- a new row
    have hat : At w h.dom b (0 + o) (x.cells.drop o) := by
     by_cases hz0 : n = 0 ∧ cap = 0
     ·rw [List.drop_eq_nil_of_le (by rw [← h1, hz0.1]; omega)]; intro i v hv; cases hv
     ·exact (hh.at hb (rep_slC hrx hz0)).drop o
    obtain ⟨olds, e1, e2, e3, e4⟩ := hat.list
    have hol : olds.length = n * i.size := by rw [e1]; simp; omega
    have hold : (Builtin.firstCells i.size n (.slice (some p) n cap)).run P w.drew = .ok olds.toArray w.drew := by
     rcases hp with ⟨rfl, rfl⟩ | rfl
     ·have hnil : olds = [] := List.eq_nil_of_length_eq_zero (by omega)
      subst hnil
      simp [Builtin.firstCells, loadCells, loadCellsFrom]
     ·exact run_firstCells_some w.drew i.size n _ _ _ olds hol fun j v hv => by
       rw [Addr.add_lit]
       have := e2 j v hv
       rw [Nat.zero_add] at this
       exact this
    have hrun := run_app_grow (P := P) (w := w) t u ty e i z ht hu hi hz (some p) n cap m cy olds news hlen hold (hfc w.drew rfl) (by omega) h63 hbytes
    have hge := grownCap_ge w (n + m) cap e
    generalize grownCap w (n + m) cap e = cap' at hrun hge
    have hal := hrep_alloc hh (w1 := w.drew.alloc (.cells (olds.toArray ++ news.toArray ++ Builtin.zeroCells z.cells (cap' - (n + m))) e)) (x := ⟨x.cells.drop o ++ cs, (cap' - (n + m)) * i.size⟩) rfl ⟨rfl, rfl, rfl⟩
     (by simp only [List.length_append, Array.size_append, List.size_toArray, hzl]; rw [← e1, hrn.1]) (fun j v hv => by
      obtain ⟨cv, k1, k2, k3⟩ := repl_get (e4.append hrn) (fun v hv => by rcases List.mem_append.1 hv with h | h; exact e3 v h; exact hn1 v h) j v hv
      refine ⟨cv, ?_, k2, k3⟩
      have hlt : j < (olds ++ news).length := (List.getElem?_eq_some_iff.1 k1).1
      rw [Array.getElem?_append_left (by simpa using hlt)]
      simpa using k1)
    have hQ := hq w.heap.size [] cap' ((cap' - (n + m)) * i.size) (.inr hal.1) (by rw [← Nat.add_mul]; exact Nat.le_of_eq (by rw [Nat.add_sub_cancel' hge]))
    simp only [List.nil_append, List.length_nil] at hQ
    have hbne : b ≠ w.heap.size := by omega
    obtain ⟨l1, l2⟩ := hrep_less (h' := upd (era h b) w.heap.size ⟨x.cells.drop o ++ cs, (cap' - (n + m)) * i.size⟩) hal.2.1 (fun b' y hy => by
     simp only [upd, era] at hy ⊢
     split at hy
     ·rename_i e1
      rw [if_pos e1]
      exact hy
     ·rename_i e1
      rw [if_neg e1]
      split at hy
      ·cases hy
      ·exact hy)
    exact ⟨_, _, _, _, hrun, hQ, l1, .sl _ _ _ _ hge ⟨_, _, _, World.alloc_heap_new w.drew _⟩, hal.2.2.trans l2⟩
abbrev FR (ro : Option Nat) : Fence := { Fence.wide with round := ro }
theorem callsFR {ro : Option Nat} {f : FuncId} {args : Array Value} {w : World} {R : Ending → World → Prop} (h : Calls P f args w R) : CallsIn (FR ro) 0 P f args w R := callsIn_wide.2 h
theorem wpIn_run {ro : Option Nat} {o : Oper} {a : Act} {w : World} {next : Act → World → Prop} {R : Exit → Act → World → Prop} (hd : ∀ c, o.op ≠ .defer c)
  (h : o.uponIn (FR ro) 0 P a next R ((execOp a.eval o).run P w)) : o.wpIn (FR ro) 0 P a w next R := by
 refine ⟨fun _ _ => trivial, ?_⟩
 rw [Oper.semAt_eq _ _ _ hd]
 exact h
theorem stE_sound0 (o : Oper) {k : EK} (ht : trK P o.op = some (.e k)) {a : Act} {ρ : Env} {h : Heap} (hh : HRep w h) (hg : GRep G w h.dom)
  (hx : ∀ x : Operand, x ∈ o.op.operands → Rep w h.dom (xv G ρ x) (a.eval x)) {Q : AV → Heap → Prop} (hs : stE P G k ρ h Q) {next : Act → World → Prop} {R : Exit → Act → World → Prop}
  (hn : ∀ c w' av h', Q av h' → HRep w' h' → Rep w' h'.dom av c → Fr w h w' h' → next (a.put o.dst c) w') {ro : Option Nat} : o.wpIn (FR ro) 0 P a w next R := by
 have hd : ∀ c, o.op ≠ .defer c := by intro c e; rw [e] at ht; cases ht
 have val : ∀ {c : Value} {w' : World} {av : AV} {h' : Heap}, (execOp a.eval o).run P w = .ok (.value c) w' → Q av h' → HRep w' h' → Rep w' h'.dom av c → Fr w h w' h' → o.wpIn (FR ro) 0 P a w next R := by
  intro c w' av h' e h1 h2 h3 h4
  refine wpIn_run hd ?_
  rw [e, Oper.uponIn_value]
  exact hn c w' av h' h1 h2 h3 h4
 obtain ⟨dst, op, type, pos, after, guard⟩ := o
 simp only at ht hx
 have call : ∀ (f : Nat) (args : List AV) (vs : List Value), (execOp a.eval { dst, op, type, pos, after, guard }).run P w = .ok (.enter f vs.toArray) w → RepL w h.dom args vs → Spec P G f args h Q →
   ({ dst, op, type, pos, after, guard } : Oper).wpIn (FR ro) 0 P a w next R := by
  intro f args vs e hr hsp
  refine wpIn_run hd ?_
  rw [e, Oper.uponIn_enter]
  refine ⟨fun e => (by cases e), callsFR ((hsp w vs hh hg hr).mono ?_)⟩
  rintro e' w' ⟨v, r, h', rfl, h1, h2, h3, h4⟩
  exact hn v w' r h' h1 h2 h3 h4
 have cf : ∀ (f : Nat) (fn : Func) (vs : Array Value), P.funcs[f]? = some fn → fn.body.isSome ∧ (fn.name == "runtime.NumGoroutine") = false → (callFunc f vs).run P w = .ok (.enter f vs) w := by
  intro f fn vs hf ⟨h1, h2⟩
  have h3 : fn.body.isNone = false := by cases e : fn.body <;> simp_all
  simp only [callFunc, Sem.run_bind, run_program, Result.andThen_ok, hf, h2, Bool.false_eq_true, if_false, h3]
  rfl
 cases op <;> simp only [trK] at ht
 case assign x =>
  cases ht
  exact val rfl hs hh (hx x (by simp [Op.operands])) (Fr.refl _ _)
 case alloc t =>
  obtain ⟨z, hz, hk⟩ := Option.map_eq_some_iff.1 ht
  cases hk
  obtain ⟨zv, h1, h2⟩ := zero_rep (w := w) (O := h.dom) hz
  obtain ⟨cs, hc, hl, ho, hr⟩ := rep_agg h2
  cases hc
  have hal := hrep_alloc hh (w1 := w.alloc (.cells zv.cells t)) (x := ⟨z, 0⟩) rfl ⟨rfl, rfl, rfl⟩ (by simpa using hl) (fun i v hv => by
   have hlt : i < z.length := (List.getElem?_eq_some_iff.1 hv).1
   have hcs : zv.cells[i]? = some (zv.cells[i]'(by omega)) := Array.getElem?_eq_getElem _
   exact ⟨_, hcs, ho i _ hcs, hr i v _ hv hcs⟩)
  exact val (c := .pointer (some ⟨w.heap.size, 0, none⟩)) (w' := w.alloc (.cells zv.cells t)) (by simp [execOp, Instr.alloc, h1, newVar, newRow]) (hs w.heap.size hal.1) hal.2.1 (.ptr _ _ ⟨_, _, _, World.alloc_heap_new w _⟩) hal.2.2
 case box t x =>
  cases ht
  simp only [stE] at hs
  split at hs
  ·rename_i cs hcs
   obtain ⟨hr, h1⟩ := cellsOf_rep (hx x (by simp [Op.operands])) hcs
   have hal := hrep_alloc hh (w1 := w.alloc (.cells (a.eval x).cells t)) (x := ⟨cs, 0⟩) rfl ⟨rfl, rfl, rfl⟩ (by simpa using hr.1) (fun i v hv => by
    obtain ⟨cv, k1, k2, k3⟩ := repl_get hr h1 i v hv
    exact ⟨cv, by simpa using k1, k2, k3⟩)
   exact val (c := .pointer (some ⟨w.heap.size, 0, none⟩)) (w' := w.alloc (.cells (a.eval x).cells t)) (by simp [execOp, Instr.box, newVar, newRow]) (hs w.heap.size hal.1) hal.2.1 (.ptr _ _ ⟨_, _, _, World.alloc_heap_new w _⟩) hal.2.2
  ·exact hs.elim
 case buildSlice t len parts =>
  split at ht
  ·rename_i e hu
   simp only [Option.bind_eq_bind, Option.bind_eq_some_iff] at ht
   obtain ⟨z, hz, n, hn', hk⟩ := ht
   split at hk
   ·rename_i hc
    simp only [Option.some.injEq, K.e.injEq] at hk
    subst hk
    simp only [stE] at hs
    split at hs
    ·rename_i cs hcs
     obtain ⟨zv, h1, h2⟩ := zero_rep (w := w) (O := h.dom) hz
     obtain ⟨zc, hzc, hl, ho, hr⟩ := rep_agg h2
     cases hzc
     have hzn : zv.cells.size = n := by omega
     have hbase : Rep w h.dom (.agg ((List.range (len * n)).map fun i => z.getD (i % n) .any)) (.agg ((Array.range (len * n)).map (zv.cells[· % zv.cells.size]!))) := by
      refine .agg _ _ (by simp) (fun i c hc => ?_) (fun i v c hv hc => ?_)
      ·simp only [Array.getElem?_map, Option.map_eq_some_iff] at hc
       obtain ⟨j, _, rfl⟩ := hc
       have hlt : j % zv.cells.size < zv.cells.size := Nat.mod_lt _ (by omega)
       rw [getElem!_pos zv.cells _ hlt]
       exact ho _ _ (Array.getElem?_eq_getElem hlt)
      ·simp only [List.getElem?_map, Option.map_eq_some_iff] at hv
       simp only [Array.getElem?_map, Option.map_eq_some_iff] at hc
       obtain ⟨j, hj, rfl⟩ := hv
       obtain ⟨j', hj', rfl⟩ := hc
       have e1 : j = i := by
        have := (List.getElem?_eq_some_iff.1 hj).2
        simpa using this.symm
       have e2 : j' = i := by
        have := (Array.getElem?_eq_some_iff.1 hj').2
        simpa using this.symm
       rw [e1, e2]
       clear e1 e2 hj hj'
       have hlt : i % n < zv.cells.size := by rw [hzn]; exact Nat.mod_lt _ hc.1
       rw [hzn, getElem!_pos zv.cells _ hlt]
       refine hr (i % n) _ _ ?_ (Array.getElem?_eq_getElem hlt)
       rw [List.getD_eq_getElem?_getD, List.getElem?_eq_getElem (by omega)]
       rfl
     obtain ⟨cs', hf, hout⟩ := afill_sound (G := G) (ρ := ρ) (a := a) (place := fun i => some (i * n, n)) parts.toList _ _ _ cs (by simp) (fun j i x off n' y h1 h2 => by
      simp only [List.getElem?_map, Option.map_eq_some_iff] at h2
      obtain ⟨⟨i', x'⟩, h3, h4⟩ := h2
      simp at h1 h3
      rw [h1] at h3
      cases h3
      simp only [Prod.mk.injEq] at h4
      obtain ⟨rfl, rfl, rfl⟩ := h4
      exact ⟨rfl, rfl⟩) (fun p hp => hx p.2 (by simp [Op.operands]; exact ⟨p.1, by simpa using hp⟩)) hbase hcs
     obtain ⟨cc, hcc, hl', ho', hr'⟩ := rep_agg hout
     cases hcc
     have hal := hrep_alloc hh (w1 := w.alloc (.cells cs' e)) (x := ⟨cs, 0⟩) rfl ⟨rfl, rfl, rfl⟩ (by simpa using hl') (fun i v hv => by
      have hlt : i < cs.length := (List.getElem?_eq_some_iff.1 hv).1
      have hcs : cs'[i]? = some (cs'[i]'(by omega)) := Array.getElem?_eq_getElem _
      exact ⟨_, hcs, ho' i _ hcs, hr' i v _ hv hcs⟩)
     refine val (c := .slice (some ⟨w.heap.size, 0, none⟩) len len) (w' := w.alloc (.cells cs' e)) ?_ (hs w.heap.size hal.1) hal.2.1 (.sl _ _ _ _ (Nat.le_refl _) ⟨_, _, _, World.alloc_heap_new w _⟩) hal.2.2
     have hz4 : ¬ (len * n > 2 ^ 24) := by omega
     have fin : ∀ zc : Array Value, (Array.range (len * n)).map (zc[· % zc.size]!) = (Array.range (len * n)).map (zv.cells[· % zv.cells.size]!) →
       (match Instr.fill (fun i => some (i * n, n)) ((Array.range (len * n)).map (zc[· % zc.size]!)) ((parts.map fun (x : Nat × Operand) => (x.1, a.eval x.2)).toList) with
        | some cells => (do pure (Value.slice (some (← newRow e cells)) len len) : Sem Value)
        | x => (stuck "buildSlice: a part of the wrong size" : Sem Value)).run P w = .ok (.slice (some ⟨w.heap.size, 0, none⟩) len len) (w.alloc (.cells cs' e)) := by
      intro zc hzc
      rw [hzc, Array.toList_map, hf]
      rfl
     by_cases e0 : len * n = 0
     ·have := fin #[] (by rw [e0]; simp)
      simp only [execOp, Instr.buildSlice, Sem.run_bind, run_underlying hu, Result.andThen_ok, run_sz hn', Sem.run_ite, if_neg hz4, Sem.run_pure, if_pos e0]
      exact congrArg (fun r => Result.andThen r fun a w' => Result.ok (Next.value a) w') this
     ·have := fin zv.cells rfl
      simp only [execOp, Instr.buildSlice, Sem.run_bind, run_underlying hu, Result.andThen_ok, run_sz hn', Sem.run_ite, if_neg hz4, Sem.run_pure, if_neg e0, h1]
      exact congrArg (fun r => Result.andThen r fun a w' => Result.ok (Next.value a) w') this
    ·exact hs.elim
   ·cases hk
  ·cases ht
 case store t x y =>
  obtain ⟨n, hn', hk⟩ := Option.map_eq_some_iff.1 ht
  cases hk
  simp only [stE] at hs
  split at hs
  ·rename_i h' he
   obtain ⟨w', h1, h2, h3⟩ := asto_sound (P := P) hh hn' he (hx x (by simp [Op.operands])) (hx y (by simp [Op.operands]))
   refine wpIn_run hd ?_
   have : (execOp a.eval { dst, op := .store t x y, type, pos, after, guard }).run P w = .ok .skip w' := by
    simp only [execOp, Sem.run_bind, h1, Result.andThen_ok]
    rfl
   rw [this, Oper.uponIn_skip]
   exact hn undef w' (.tup []) h' hs h2 rep_undef h3
  ·exact hs.elim
 case binOp op t x y yt =>
  unfold trBin at ht
  split at ht
  ·cases ht
  ·cases ht
  ·split at ht <;> cases ht
  ·split at ht
   ·cases ht
   ·split at ht <;> cases ht
  ·rename_i e hu
   split at ht
   ·have key : ∀ neg, stE P G (.nilq neg x) ρ h Q → ∃ c av, (do eqGuard (if neg then .neq else .eql) t x (.const (.slice none 0 0)) (a.eval x) (.slice none 0 0); binOp (if neg then .neq else .eql) t (a.eval x) (.slice none 0 0) : Sem Value).run P w = .ok c w ∧ Q av h ∧ Rep w h.dom av c := by
     intro neg hs
     have hr := hx x (by simp [Op.operands])
     have go : ∀ (p : Option Addr) (n c : Nat), a.eval x = .slice p n c → Q (.bool (p.isNone != neg)) h → ∃ c av, (do eqGuard (if neg then .neq else .eql) t x (.const (.slice none 0 0)) (a.eval x) (.slice none 0 0); binOp (if neg then .neq else .eql) t (a.eval x) (.slice none 0 0) : Sem Value).run P w = .ok c w ∧ Q av h ∧ Rep w h.dom av c := by
      intro p n c h1 h2
      rw [h1]
      refine ⟨.bool (p.isNone != neg), _, ?_, h2, .bool _⟩
      cases neg
      ·simp only [Bool.false_eq_true, if_false, Sem.run_bind]
       rw [show (eqGuard .eql t x (.const (.slice none 0 0)) (.slice p n c) (.slice none 0 0)).run P w = .ok () w from rfl]
       have := Lib.run_eql_slice_nil (P := P) w t e p n c 0 0 hu
       cases p <;> exact this
      ·simp only [if_true, Sem.run_bind]
       rw [show (eqGuard .neq t x (.const (.slice none 0 0)) (.slice p n c) (.slice none 0 0)).run P w = .ok () w from rfl]
       have := run_neq_slice_nil_any (P := P) w t e p n c 0 0 hu
       cases p <;> exact this
     simp only [stE] at hs
     split at hs
     ·rename_i he
      rw [he] at hr
      exact go none 0 0 (rep_nils hr) (by cases neg <;> exact hs)
     ·rename_i he
      rw [he] at hr
      obtain ⟨p, hc, _, hp⟩ := rep_sl hr
      exact go _ _ _ hc (by cases neg <;> exact hs)
     ·rename_i cells n he
      rw [he] at hr
      obtain ⟨p, cap, hc, _, hp⟩ := rep_ro hr
      cases p with
      | none =>
       rcases hp with ⟨_, rfl⟩ | ⟨_, _, _, hp, _⟩
       ·exact go none 0 cap hc (by cases neg <;> exact hs.1 rfl)
       ·cases hp
      | some p => exact go _ _ _ hc (by cases neg <;> exact hs.2)
     ·exact hs.elim
    split at ht
    ·cases ht
     obtain ⟨c, av, h1, h2, h3⟩ := key false hs
     exact val (by simp only [execOp]; rw [Sem.run_bind]; simp only [Bool.false_eq_true, if_false] at h1; rw [show a.eval (.const (.slice none 0 0)) = .slice none 0 0 from rfl, h1]; rfl) h2 hh h3 (Fr.refl _ _)
    ·cases ht
     obtain ⟨c, av, h1, h2, h3⟩ := key true hs
     exact val (by simp only [execOp]; rw [Sem.run_bind]; simp only [if_true] at h1; rw [show a.eval (.const (.slice none 0 0)) = .slice none 0 0 from rfl, h1]; rfl) h2 hh h3 (Fr.refl _ _)
    ·cases ht
   ·cases ht
  ·split at ht
   ·split at ht <;> cases ht
   ·cases ht
  ·split at ht
   ·cases ht
   ·split at ht
    ·cases ht
    ·split at ht <;> cases ht
  ·split at ht
   ·cases ht
   ·split at ht
    ·cases ht
    ·split at ht <;> cases ht
  ·cases ht
 case call c =>
  obtain ⟨callee, args, argTypes⟩ := c
  unfold trCall at ht
  have hargs : ∀ y ∈ args.toList, Rep w h.dom (xv G ρ y) (a.eval y) := fun y hy => hx y (by simp [Op.operands, Call.operands]; exact .inr (by simpa using hy))
  cases callee with
  | invoke r m => simp at ht
  | value f =>
   have hcv : stE P G (.callv f args.toList) ρ h Q → ({ dst, op := .call ⟨.value f, args, argTypes⟩, type, pos, after, guard } : Oper).wpIn (FR ro) 0 P a w next R := by
    intro hs
    have hf := hx f (by simp [Op.operands, Call.operands])
    simp only [stE] at hs
    split at hs
    ·rename_i f' first caps he
     obtain ⟨⟨fn, h1, h2⟩, h3⟩ := hs
     rw [he] at hf
     obtain ⟨as, cs, hc, ha, hcp⟩ := rep_fn hf
     refine call f' _ (as.toList ++ args.toList.map a.eval ++ cs.toList) ?_ ((ha.append (repl_map hargs)).append hcp) h3
     simp only [execOp, resolve, hc, Deferred.ofValue, Sem.run_bind, Sem.run_pure, Result.andThen_ok, invoke, cf f' fn _ h1 h2]
     congr 2
     apply Array.ext'
     simp
    ·rename_i l he
     obtain ⟨hy, hs⟩ := hs
     rw [he] at hf
     have hc := rep_yl hf
     obtain ⟨fn, tmps, assign, body, h1, h2⟩ := hy l _ h Q hs w (args.toList.map a.eval) hh hg (repl_map hargs)
     have e : (execOp a.eval { dst, op := .call ⟨.value f, args, argTypes⟩, type, pos, after, guard }).run P w = .ok (.round l fn tmps assign body) w := by
      simp only [execOp, resolve, hc, Deferred.ofValue, Sem.run_bind, Sem.run_pure, Result.andThen_ok, invoke]
      rw [← h1]
      congr 2
      apply Array.ext'
      simp
     refine wpIn_run hd ?_
     rw [e, Oper.uponIn_round]
     refine ⟨fun e => (by cases e), h2.mono ?_⟩
     rintro e' w' ⟨v, r, h', rfl, k1, k2, k3, k4⟩
     exact hn v w' r h' k1 k2 k3 k4
    ·exact hs.elim
   cases f with
   | func f =>
    simp only at ht
    split at ht
    ·rename_i fn hf
     split at ht
     ·rename_i hc
      cases ht
      refine call f (args.toList.map (xv G ρ)) (args.toList.map a.eval) ?_ (repl_map hargs) hs
      simp only [execOp, resolve, Act.eval, Deferred.ofValue, Sem.run_bind, Sem.run_pure, Result.andThen_ok, invoke, cf f fn _ hf hc]
      congr 2
      apply Array.ext'
      simp
     ·cases ht
    ·cases ht
   | tmp t => cases ht; exact hcv hs
   | const v => cases ht; exact hcv hs
   | global g => cases ht; exact hcv hs
  | builtin b =>
   simp only at ht
   unfold trBuiltin at ht
   split at ht
   ·split at ht <;> cases ht
   ·cases ht
   ·cases ht
   ·rename_i x y t u e1 e2
    have ea : args = #[x, y] := Array.toList_inj.1 (by simpa using e1)
    have et : argTypes = #[t, u] := Array.toList_inj.1 (by simpa using e2)
    subst ea
    subst et
    have hrx := hargs x (by simp)
    have hry := hargs y (by simp)
    have key : ∀ (e : TypeId) (i : TypeInfo) (z : Value), P.underlying t = some (.slice e) → ((∃ e', P.underlying u = some (.slice e')) ∨ P.underlying u = some .string) → P.info? e = some i → i.zero = some z → z.cells.size = i.size →
      stE P G (.app i.size i.bytes x y) ρ h Q → ({ dst, op := .call ⟨.builtin .append, #[x, y], #[t, u]⟩, type, pos, after, guard } : Oper).wpIn (FR ro) 0 P a w next R := by
     intro e i z ht hu hi hz hzs hs
     simp only [stE] at hs
     split at hs
     ·exact hs.elim
     ·rename_i m cs hy
      obtain ⟨c, w', av, h', r1, r2, r3, r4, r5⟩ := app_sound (ty := type) hh ht hu hi hz hzs hrx hry hy hs
      exact val (by simp only [execOp, resolve, invoke, builtin, Sem.run_bind, Sem.run_pure, Result.andThen_ok]; rw [show (#[x, y] : Array Operand).map a.eval = #[a.eval x, a.eval y] by simp, r1]; rfl) r2 r3 r4 r5
    split at ht
    ·rename_i e e' h1 h2
     split at ht
     ·rename_i i hi
      split at ht
      ·rename_i z hz
       split at ht
       ·rename_i hc
        cases ht
        exact key e i z h1 (.inl ⟨e', h2⟩) hi hz hc.1 hs
       ·cases ht
      ·cases ht
     ·cases ht
    ·rename_i e h1 h2
     split at ht
     ·rename_i i hi
      split at ht
      ·rename_i z hz
       split at ht
       ·rename_i hc
        cases ht
        exact key e i z h1 (.inr h2) hi hz hc.1 hs
       ·cases ht
      ·cases ht
     ·cases ht
    ·cases ht
   ·rename_i x y t u e1 e2
    have ea : args = #[x, y] := Array.toList_inj.1 (by simpa using e1)
    have et : argTypes = #[t, u] := Array.toList_inj.1 (by simpa using e2)
    subst ea
    subst et
    have hrx := hargs x (by simp)
    have hry := hargs y (by simp)
    split at ht
    ·rename_i e hu
     split at ht
     ·rename_i n hn
      cases ht
      simp only [stE] at hs
      split at hs
      ·exact hs.elim
      ·rename_i m cs hy
       obtain ⟨c, w', av, h', r1, r2, r3, r4, r5⟩ := cpy_sound (u := u) (ty := type) hh hu hn hrx hry hy hs
       exact val (by simp only [execOp, resolve, invoke, builtin, Sem.run_bind, Sem.run_pure, Result.andThen_ok]; rw [show (#[x, y] : Array Operand).map a.eval = #[a.eval x, a.eval y] by simp, r1]; rfl) r2 r3 r4 r5
     ·cases ht
    ·cases ht
   ·rename_i x i t ts e1 e2
    have ea : args = #[x, i] := Array.toList_inj.1 (by simpa using e1)
    have et : argTypes = (t :: ts).toArray := Array.toList_inj.1 (by simpa using e2)
    subst ea
    subst et
    obtain ⟨⟨k, e⟩, hm, hk⟩ := Option.map_eq_some_iff.1 ht
    cases hk
    simp only [stE] at hs
    obtain ⟨w', h', h1, h2, h3, h4⟩ := dlt_sound (P := P) (ty := type) hh hm ts (hargs x (by simp)) (hargs i (by simp)) hs
    exact val (c := .tuple #[]) (by simp only [execOp, resolve, invoke, builtin, Sem.run_bind, Sem.run_pure, Result.andThen_ok]; rw [show (#[x, i] : Array Operand).map a.eval = #[a.eval x, a.eval i] by simp, h1]; rfl) h2 h3 rep_undef h4
   ·cases ht
 case mapUpdate t m i v =>
  obtain ⟨⟨k, e⟩, hm, hk⟩ := Option.map_eq_some_iff.1 ht
  cases hk
  simp only [stE] at hs
  obtain ⟨w', h', h1, h2, h3, h4⟩ := mup_sound (P := P) hh hm (hx m (by simp [Op.operands])) (hx i (by simp [Op.operands])) (hx v (by simp [Op.operands])) hs
  refine wpIn_run hd ?_
  have : (execOp a.eval { dst, op := .mapUpdate t m i v, type, pos, after, guard }).run P w = .ok .skip w' := by
   simp only [execOp, Sem.run_bind, h1, Result.andThen_ok]
   rfl
  rw [this, Oper.uponIn_skip]
  exact hn undef w' (.tup []) h' h2 h3 rep_undef h4
 case insert t m i v =>
  obtain ⟨⟨k, e⟩, hm, hk⟩ := Option.map_eq_some_iff.1 ht
  cases hk
  simp only [stE] at hs
  obtain ⟨w', h', h1, h2, h3, h4⟩ := mup_sound (P := P) hh hm (hx m (by simp [Op.operands])) (hx i (by simp [Op.operands])) (hx v (by simp [Op.operands])) hs
  refine wpIn_run hd ?_
  have : (execOp a.eval { dst, op := .insert t m i v, type, pos, after, guard }).run P w = .ok .skip w' := by
   simp only [execOp, Sem.run_bind, h1, Result.andThen_ok]
   rfl
  rw [this, Oper.uponIn_skip]
  exact hn undef w' (.tup []) h' h2 h3 rep_undef h4
 case makeMap t r =>
  cases r with
  | some r => cases ht
  | none =>
   simp only at ht
   split at ht
   ·cases ht
    simp only [stE] at hs
    have hal := hrep_new_obj hh (w1 := w.alloc (.map #[] 0)) (o := .map #[] 0) (x := ⟨[.raw (.map #[] 0)], 0⟩) rfl ⟨rfl, rfl, rfl⟩ (fun _ => .inr ⟨_, rfl, rfl, World.alloc_heap_new w _⟩)
    exact val (c := .map (some w.heap.size)) (w' := w.alloc (.map #[] 0)) (by simp only [execOp, Option.map_none, Sem.run_bind, RowKit.run_makeMap, Result.andThen_ok]; rfl) (hs _ hal.1) hal.2.1 (.mpp _) hal.2.2
   ·cases ht
 case lookup t x i ok =>
  split at ht
  ·obtain ⟨_, _, hk⟩ := Option.map_eq_some_iff.1 ht
   cases hk
  ·cases ht
 case makeSlice t x y =>
  split at ht
  ·rename_i e hu
   split at ht
   ·rename_i i hi
    split at ht
    ·rename_i z hz
     split at ht
     ·rename_i hc
      cases ht
      simp only [stE] at hs
      obtain ⟨c, w', av, h', r1, r2, r3, r4, r5⟩ := mks_sound hh hu hi hz hc.1 hc.2.1 (hx x (by simp [Op.operands])) (hx y (by simp [Op.operands])) hs
      exact val (by simp only [execOp, Sem.run_bind, r1, Result.andThen_ok, Sem.run_pure]) r2 r3 r4 r5
     ·cases ht
    ·cases ht
   ·cases ht
  ·cases ht
 case load t x => cases h' : shapeOf P t <;> simp [h'] at ht
 case build t parts =>
  simp only [Option.bind_eq_bind, Option.bind_eq_some_iff] at ht
  obtain ⟨_, _, _, _, hk⟩ := ht
  cases hk
 case convert s d x =>
  split at ht
  ·cases ht
  ·split at ht <;> cases ht
  ·cases ht
 case makeFunc fn f c => cases fn <;> cases ht
 case fieldAddr s x f => 
  split at ht
  ·split at ht <;> cases ht
  ·cases ht
 case field s x f =>
  split at ht
  ·rename_i fd _
   cases h' : shapeOf P fd.type <;> simp [h'] at ht
  ·cases ht
 case indexAddr t x i =>
  split at ht
  ·rename_i e _
   cases h' : szOf P e <;> simp [h'] at ht
  ·rename_i e _
   cases h' : szOf P e <;> simp [h'] at ht
  ·cases ht
 case index t x i =>
  split at ht
  ·simp only [Option.bind_eq_bind, Option.bind_eq_some_iff] at ht
   obtain ⟨_, _, _, _, hk⟩ := ht
   cases hk
  ·cases ht
  ·cases ht
 case slice t x lo hi mx =>
  cases mx with
  | some m =>
   cases hi with
   | none => simp at ht
   | some hi =>
    simp only at ht
    split at ht
    ·rename_i e _
     cases h' : szOf P e <;> simp [h'] at ht
    ·cases ht
  | none =>
   simp only at ht
   split at ht
   ·rename_i e _
    cases h' : szOf P e <;> simp [h'] at ht
   ·rename_i e _
    cases h' : szOf P e <;> simp [h'] at ht
   ·cases ht
   ·cases ht
 all_goals cases ht
theorem Fr.less {w w' : World} {h h1 h2 : Heap} (hf : Fr w h w' h1) (hl : ∀ b, h1 b = none → h2 b = none) : Fr w h w' h2 :=
 ⟨hf.size, fun b hb hn => ⟨hl b (hf.blk b hb hn).1, (hf.blk b hb hn).2⟩, hf.cel, hf.os, hf.tape, hf.out⟩
theorem hrep_new {h : Heap} {b : Nat} {x : Blk} (hb : h b = none) (hh : HRep w (upd h b x)) : HRep w h ∧ (∀ c, (upd h b x) c = none → h c = none) ∧ b < w.heap.size ∧
  (isC w b → ∀ (i : Nat) (v : AV), x.cells[i]? = some v → ∃ cv, w.cell? ⟨b, i, none⟩ = some cv ∧ cv.oneCell' = true ∧ Rep w h.dom v cv) := by
 have hsub : ∀ c y, h c = some y → upd h b x c = some y := by
  intro c y e
  have : c ≠ b := by rintro rfl; rw [hb] at e; cases e
  simp [upd, this, e]
 obtain ⟨k1, k2⟩ := hrep_less hh hsub
 refine ⟨k1, fun c hc => ?_, ?_, fun hk i v hv => ?_⟩
 ·cases e : h c with
  | none => rfl
  | some y => rw [hsub c y e] at hc; cases hc
 ·exact own_lt (hh b x (by simp [upd]))
 ·obtain ⟨cv, e1, e2, e3⟩ := (hh.at (b := b) (x := x) (by simp [upd]) hk) i v hv
  exact ⟨cv, by simpa using e1, e2, e3.keep k2.keeps⟩
theorem stE_sound (o : Oper) {k : EK} (ht : trK P o.op = some (.e k.bare)) {a : Act} {ρ : Env} {h : Heap} (hh : HRep w h) (hg : GRep G w h.dom)
  (hx : ∀ x : Operand, x ∈ o.op.operands → Rep w h.dom (xv G ρ x) (a.eval x)) {Q : AV → Heap → Prop} (hs : stE P G k ρ h Q) {next : Act → World → Prop} {R : Exit → Act → World → Prop}
  (hn : ∀ c w' av h', Q av h' → HRep w' h' → Rep w' h'.dom av c → Fr w h w' h' → next (a.put o.dst c) w') {ro : Option Nat} : o.wpIn (FR ro) 0 P a w next R := by
 cases k
 case bxr x =>
  simp only [stE] at hs
  split at hs
  ·rename_i cs hcs
   refine stE_sound0 o (k := .box x) ht hh hg hx (Q := fun r h' => ∃ b, h b = none ∧ r = .ptr b 0 ∧ h' = upd h b ⟨cs, 0⟩) (by simp only [stE, hcs]; exact fun b hb => ⟨b, hb, rfl, rfl⟩) ?_
   rintro c w' av h' ⟨b, hb, rfl, rfl⟩ k1 k2 k3
   obtain ⟨l1, l2, l3, l4⟩ := hrep_new hb k1
   have l4 := l4 (rep_ptrC k2)
   refine hn c w' _ h hs l1 ?_ (k3.less l2)
   rw [rep_ptr k2]
   exact .cp cs 0 b 0 (fun i => (w'.cell? ⟨b, i, none⟩).getD undef) l3 (fun hd => hd hb) (fun i v hv => by
    obtain ⟨cv, e1, e2, _⟩ := l4 i v hv
    rw [Nat.zero_add, e1]; exact ⟨rfl, e2⟩) (fun i v hv => by
    obtain ⟨cv, e1, _, e3⟩ := l4 i v hv
    rw [e1]; exact e3)
  ·exact hs.elim
 case bsr len cells parts =>
  simp only [stE] at hs
  split at hs
  ·rename_i cs hcs
   refine stE_sound0 o (k := .bsl len cells parts) ht hh hg hx (Q := fun r h' => ∃ b, h b = none ∧ r = .sl b 0 len len ∧ h' = upd h b ⟨cs, 0⟩) (by simp only [stE, hcs]; exact fun b hb => ⟨b, hb, rfl, rfl⟩) ?_
   rintro c w' av h' ⟨b, hb, rfl, rfl⟩ k1 k2 k3
   obtain ⟨l1, l2, l3, l4⟩ := hrep_new hb k1
   refine hn c w' _ h hs.2 l1 ?_ (k3.less l2)
   obtain ⟨ad, rfl, hlc, ha⟩ := rep_sl k2
   by_cases hl0 : len = 0
   ·rw [hs.1 hl0, hl0]; exact .roe _ _
   rcases ha with ⟨e, _⟩ | rfl
   ·rw [hs.1 e, e]; exact .roe _ _
   ·have l4 := l4 (rep_slC k2 (fun q => hl0 q.1))
    refine .ro cs len len b 0 (fun i => (w'.cell? ⟨b, i, none⟩).getD undef) hlc l3 (fun hd => hd hb) (fun i v hv => ?_) (fun i v hv => ?_)
    ·obtain ⟨cv, e1, e2, _⟩ := l4 i v hv
     rw [Nat.zero_add, e1]; exact ⟨rfl, e2⟩
    ·obtain ⟨cv, e1, _, e3⟩ := l4 i v hv
     rw [e1]; exact e3
  ·exact hs.elim
 all_goals exact stE_sound0 o ht hh hg hx hs hn
end
end Go.Ab
end
section
namespace Go.Ab
section
variable {P : Program} {G : Glo}
abbrev W0 := World × List Deferred
structure Sim (G : Glo) (w0 : W0) (h0 : Heap) (N : Nat) (ρ : Env) (h : Heap) (a : Act) (w : World) : Prop where
 nd : a.defers = w0.2
 sz : a.tmps.size = N
 env : ERep w h.dom ρ a
 heap : HRep w h
 glo : GRep G w h.dom
 fr : Fr w0.1 h0 w h
theorem wanted_of {o : Oper} {ops : Array Oper} {ao : AOp} {N : Nat} (ht' : trOp P N ops o = some ao.bare) :
    trK P o.op = some ao.k.bare ∧ ao.d = o.dst ∧ (∀ d, o.dst = some d → d < N) ∧
      ((o.guard = none ∧ ao.g = none) ∨ ∃ j want s, o.guard = some (j, want) ∧ (ops[j]?).bind (·.dst) = some s ∧ ao.g = some (s, want)) := by
  have key : ∀ bo : AOp, trOp P N ops o = some bo → trK P o.op = some bo.k ∧ bo.d = o.dst ∧ (∀ d, o.dst = some d → d < N) ∧
      ((o.guard = none ∧ bo.g = none) ∨ ∃ j want s, o.guard = some (j, want) ∧ (ops[j]?).bind (·.dst) = some s ∧ bo.g = some (s, want)) := by
   intro ao ht
   unfold trOp at ht
   split at ht
   · rename_i k g hk hg
     have h1 : ao.k = k ∧ ao.d = o.dst ∧ (∀ d, o.dst = some d → d < N) ∧ ao.g = g := by
       split at ht
       · rename_i d e
         split at ht
         · rename_i hlt
           cases ht
           refine ⟨rfl, e.symm, ?_, rfl⟩
           intro d' h'
           rw [e] at h'
           cases h'
           exact hlt
         · cases ht
       · rename_i e
         cases ht
         exact ⟨rfl, e.symm, by simp [e], rfl⟩
     refine ⟨by rw [h1.1]; exact hk, h1.2.1, h1.2.2.1, ?_⟩
     unfold trG at hg
     split at hg
     · rename_i e
       cases hg
       exact .inl ⟨e, h1.2.2.2⟩
     · rename_i j want e
       split at hg
       · rename_i s hs
         cases hg
         exact .inr ⟨j, want, s, e, hs, h1.2.2.2⟩
       · cases hg
   · cases ht
  exact key ao.bare ht'
theorem gd_sound {O : Nat → Prop} {w : World} {o : Oper} {ops : Array Oper} {ao : AOp} {ρ : Env} {a : Act} {yes no : Prop}
  (hg : (o.guard = none ∧ ao.g = none) ∨ ∃ j want s, o.guard = some (j, want) ∧ (ops[j]?).bind (·.dst) = some s ∧ ao.g = some (s, want))
  (he : ∀ s want, ao.g = some (s, want) → Rep w O (lk ρ s) (a.tmps.getD s undef)) (h : gd ao.g ρ yes no) :
  (Region.wanted o (yielded ops a.tmps) = true ∧ yes) ∨ (Region.wanted o (yielded ops a.tmps) = false ∧ no) := by
 rcases hg with ⟨h1, h2⟩ | ⟨j, want, s, h1, h2, h3⟩
 ·rw [h2] at h
  exact .inl ⟨by simp [Region.wanted, h1], h⟩
 ·have hr := he s want h3
  rw [h3] at h
  simp only [gd] at h
  have hget : ∀ v : Value, a.tmps.getD s undef = v → v ≠ undef → a.tmps[s]? = some v := by
   intro v hv hne
   rw [Array.getD_eq_getD_getElem?] at hv
   cases e : a.tmps[s]? with
   | none => rw [e] at hv; exact absurd hv.symm hne
   | some x => rw [e] at hv; simp at hv; rw [hv]
  split at h
  ·rename_i b e
   rw [e] at hr
   have hv := hget _ (rep_bool hr) (by simp [undef])
   by_cases hb : b = want
   ·refine .inl ⟨?_, h.1 hb⟩
    simp [Region.wanted, h1, yielded, h2, hv, hb]
   ·refine .inr ⟨?_, h.2 hb⟩
    simp [Region.wanted, h1, yielded, h2, hv, hb]
  ·rename_i e
   rw [e] at hr
   obtain ⟨cs, hc, _⟩ := rep_tup hr
   refine .inr ⟨?_, h⟩
   have hy : yielded ops a.tmps j = none := by
    unfold yielded
    rw [h2]
    simp only [Option.bind_some]
    split
    ·rename_i b hb
     have : a.tmps.getD s undef = .bool b := by rw [Array.getD_eq_getD_getElem?, hb]; rfl
     rw [hc] at this
     cases this
    ·rfl
   simp [Region.wanted, h1, hy]
  ·exact h.elim
theorem put_size (a : Act) (d : Option Nat) (v : Value) : (a.put d v).tmps.size = a.tmps.size := by cases d <;> simp [Act.put]
theorem put_nd (a : Act) (d : Option Nat) (v : Value) : (a.put d v).defers = a.defers := by cases d <;> rfl
theorem op_sound {w0 : W0} {h0 : Heap} {N : Nat} {ops : Array Oper} {o : Oper} {ao : AOp} (ht : trOp P N ops o = some ao.bare) {ρ : Env} {h : Heap} {a : Act} {w : World} (hs : Sim G w0 h0 N ρ h a w)
  {K : Env → Heap → Prop} (hq : gd ao.g ρ (stp P G ao.k ρ h fun v h' => K (put ao.d v ρ) h') (K (put ao.d (.tup []) ρ) h)) {next : Act → World → Prop} {R : Exit → Act → World → Prop}
  (hn : ∀ ρ' h' a' w', K ρ' h' → Sim G w0 h0 N ρ' h' a' w' → next a' w') {ro : Option Nat} :
  (Region.wanted o (yielded ops a.tmps) = true ∧ o.wpIn (FR ro) 0 P a w next R) ∨ (Region.wanted o (yielded ops a.tmps) = false ∧ next (a.put o.dst undef) w) := by
 obtain ⟨hk, hd, hN, hg⟩ := wanted_of ht
 have hdl : ∀ i, ao.d = some i → i < a.tmps.size := fun i hi => by rw [hs.sz]; exact hN i (by rw [← hd]; exact hi)
 have hx : ∀ x : Operand, Rep w h.dom (xv G ρ x) (a.eval x) := fun x => rep_xv hs.glo hs.env x
 rcases gd_sound (w := w) (O := h.dom) hg (fun s _ _ => hs.env s) hq with ⟨hw, hy⟩ | ⟨hw, hno⟩
 ·refine .inl ⟨hw, ?_⟩
  unfold stp at hy
  split at hy
  ·rename_i k e
   rw [e] at hk
   change trK P o.op = some (.r k) at hk
   split at hy
   ·rename_i v hv
    obtain ⟨c, h1, h2⟩ := evR_sound o hk hs.heap (fun x _ => hx x) hv
    refine wpIn_run (fun c e => by rw [e] at hk; cases hk) ?_
    rw [h1, Oper.uponIn_value, ← hd]
    exact hn _ _ _ _ hy ⟨by rw [put_nd]; exact hs.nd, by rw [put_size]; exact hs.sz, hs.env.put hdl h2, hs.heap, hs.glo, hs.fr⟩
   ·exact hy.elim
  ·rename_i k e
   rw [e] at hk
   refine stE_sound o hk hs.heap hs.glo (fun x _ => hx x) hy ?_
   intro c w' av h' q1 q2 q3 q4
   rw [← hd]
   exact hn _ _ _ _ q1 ⟨by rw [put_nd]; exact hs.nd, by rw [put_size]; exact hs.sz, (hs.env.keep q4.keeps).put hdl q3, q2, hs.glo.keep q4.keeps, hs.fr.trans q4⟩
 ·refine .inr ⟨hw, ?_⟩
  rw [← hd]
  exact hn _ _ _ _ hno ⟨by rw [put_nd]; exact hs.nd, by rw [put_size]; exact hs.sz, hs.env.put hdl rep_undef, hs.heap, hs.glo, hs.fr⟩
theorem mapM_get {α β : Type} {f : α → Option β} : ∀ {l : List α} {m : List β}, l.mapM f = some m → l.length = m.length ∧ ∀ (i : Nat) x, l[i]? = some x → ∃ y, m[i]? = some y ∧ f x = some y := by
 intro l
 induction l with
 | nil => intro m h; simp at h; subst h; exact ⟨rfl, fun i x h => by simp at h⟩
 | cons a r ih =>
  intro m h
  simp only [List.mapM_cons, Option.bind_eq_bind, Option.bind_eq_some_iff] at h
  obtain ⟨b, hb, s, hs, hm⟩ := h
  cases hm
  obtain ⟨h1, h2⟩ := ih hs
  refine ⟨by simp [h1], fun i x hx => ?_⟩
  cases i with
  | zero => simp at hx; subst hx; exact ⟨b, rfl, hb⟩
  | succ i => exact h2 i x (by simpa using hx)
theorem reg_sound {w0 : W0} {h0 : Heap} {N : Nat} {ops : Array Oper} {aops : List AOp} (ht : ops.toList.mapM (trOp P N ops) = some (aops.map AOp.bare)) {R : Exit → Act → World → Prop} {K : Env → Heap → Prop}
  (hR : ∀ ρ h a w, K ρ h → Sim G w0 h0 N ρ h a w → R .normal a w) {ro : Option Nat} :
  ∀ (n k : Nat) (ρ : Env) (h : Heap) (a : Act) (w : World), k + n = ops.size → Sim G w0 h0 N ρ h a w → rwp P G (aops.drop k) ρ h K → wpOpsIn (FR ro) 0 P ops R (List.range' k n) a w := by
 obtain ⟨hl, hg⟩ := mapM_get ht
 intro n
 induction n with
 | zero =>
  intro k ρ h a w hk hs hq
  have : aops.drop k = [] := List.drop_eq_nil_of_le (by rw [List.length_map] at hl; rw [← hl]; simp; omega)
  rw [this] at hq
  exact hR ρ h a w hq hs
 | succ n ih =>
  intro k ρ h a w hk hs hq
  have hlt : k < ops.size := by omega
  obtain ⟨bo, hbo, hto⟩ := hg k ops[k] (by simp [hlt])
  rw [List.getElem?_map] at hbo
  obtain ⟨ao, hao, rfl⟩ := Option.map_eq_some_iff.1 hbo
  have hd : aops.drop k = ao :: aops.drop (k + 1) := by
   have hlt' := (List.getElem?_eq_some_iff.1 hao).1
   rw [List.drop_eq_getElem_cons hlt', (List.getElem?_eq_some_iff.1 hao).2]
  rw [hd] at hq
  simp only [rwp] at hq
  rw [List.range'_succ]
  simp only [wpOpsIn, Array.getElem?_eq_getElem hlt]
  rcases op_sound (next := wpOpsIn (FR ro) 0 P ops R (List.range' (k + 1) n)) (R := R) hto hs (K := fun ρ' h' => rwp P G (aops.drop (k + 1)) ρ' h' K) hq (fun ρ' h' a' w' q s => ih (k + 1) ρ' h' a' w' (by omega) s q) with ⟨hw, hy⟩ | ⟨hw, hno⟩
  ·rw [if_pos hw]; exact hy
  ·rw [if_neg (by rw [hw]; simp)]; exact ⟨fun _ _ => trivial, hno⟩

def Wp (P : Program) (G : Glo) (N : Nat) (ac : ACode) (ρ : Env) (h : Heap) (Q : Exit → Env → Heap → Prop) : Prop :=
 ∀ (ro : Option Nat) c, trC P N c = some ac.bare → ∀ w0 h0 a w, Sim G w0 h0 N ρ h a w →
  c.wpIn (FR ro) 0 P (fun e a' w' => ∃ ρ' h', Q e ρ' h' ∧ Sim G w0 h0 N ρ' h' a' w') a w
theorem Wp.mono {N : Nat} {ac : ACode} {ρ : Env} {h : Heap} {Q Q' : Exit → Env → Heap → Prop} (hw : Wp P G N ac ρ h Q) (hq : ∀ e ρ' h', Q e ρ' h' → Q' e ρ' h') : Wp P G N ac ρ h Q' :=
 fun ro c hc w0 h0 a w hs => wpIn_mono (hw ro c hc w0 h0 a w hs) fun _ _ _ ⟨ρ', h', x, y⟩ => ⟨ρ', h', hq _ _ _ x, y⟩
theorem Wp.weak {N : Nat} {ac : ACode} {ρ ρ1 : Env} {h h1 : Heap} {Q : Exit → Env → Heap → Prop} (hw : Wp P G N ac ρ1 h1 Q)
  (hs : ∀ w0 h0 a w, Sim G w0 h0 N ρ h a w → Sim G w0 h0 N ρ1 h1 a w) : Wp P G N ac ρ h Q :=
 fun ro c hc w0 h0 a w s => hw ro c hc w0 h0 a w (hs w0 h0 a w s)
section rules
variable {N : Nat} {ρ : Env} {h : Heap} {Q : Exit → Env → Heap → Prop}
theorem inv_any {c : Code} {ac : ACode} (hc : trC P N c = some ac) :
  match ac with
  | .skip => c = .skip
  | .ret => c = .ret
  | .exit id => c = .exit id
  | .seq _ x y => ∃ a b, c = .seq a b ∧ trC P N a = some x ∧ trC P N b = some y
  | .cond o x y => ∃ a b, c = .cond o a b ∧ trC P N a = some x ∧ trC P N b = some y
  | .block id x => ∃ a, c = .block id a ∧ trC P N a = some x
  | .loop x => ∃ a, c = .loop a ∧ trC P N a = some x
  | .scp x => ∃ a, c = .scope a ∧ trC P N a = some x
  | .lab => ∃ l, c = .label l
  | .reg l => ∃ id ops, c = .region id ops false ∧ ops.toList.mapM (trOp P N ops) = some l
  | .fz _ _ | .wk _ _ | .dregt _ _ _ => True
  | .dreg l es _ => ∃ id ops, c = .region id ops true ∧ ops.toList.mapM (trOp P N ops) = some l ∧ es = ops.toList.map edgesOf := by
 cases c
 case skip => cases hc; rfl
 case ret => cases hc; rfl
 case exit id => cases hc; rfl
 case seq a b =>
  simp only [trC] at hc
  split at hc
  ·rename_i x y h1 h2; cases hc; exact ⟨a, b, rfl, h1, h2⟩
  ·cases hc
 case cond o a b =>
  simp only [trC] at hc
  split at hc
  ·rename_i x y h1 h2; cases hc; exact ⟨a, b, rfl, h1, h2⟩
  ·cases hc
 case block id a =>
  simp only [trC] at hc
  split at hc
  ·rename_i x h1; cases hc; exact ⟨a, rfl, h1⟩
  ·cases hc
 case loop a =>
  simp only [trC] at hc
  split at hc
  ·rename_i x h1; cases hc; exact ⟨a, rfl, h1⟩
  ·cases hc
 case scope a =>
  simp only [trC] at hc
  split at hc
  ·rename_i x h1; cases hc; exact ⟨a, rfl, h1⟩
  ·cases hc
 case label l =>
  cases hc; exact ⟨l, rfl⟩
 case region id ops d =>
  cases d
  ·simp only [trC] at hc
   split at hc
   ·rename_i x h1; cases hc; exact ⟨id, ops, rfl, h1⟩
   ·cases hc
  ·simp only [trC] at hc
   split at hc
   ·rename_i x h1; cases hc; exact ⟨id, ops, rfl, h1, rfl⟩
   ·cases hc
 all_goals (simp only [trC] at hc; cases hc)
theorem Wp.skip (hq : Q .normal ρ h) : Wp P G N .skip ρ h Q := by
 intro ro c hc w0 h0 a w hs
 have e : c = .skip := inv_any hc
 subst e
 exact wpIn_skip ⟨ρ, h, hq, hs⟩
theorem Wp.ret (hq : Q .ret ρ h) : Wp P G N .ret ρ h Q := by
 intro ro c hc w0 h0 a w hs
 have e : c = .ret := inv_any hc
 subst e
 exact wpIn_ret ⟨ρ, h, hq, hs⟩
theorem Wp.exit {id : Nat} (hq : Q (.exit id) ρ h) : Wp P G N (.exit id) ρ h Q := by
 intro ro c hc w0 h0 a w hs
 have e : c = .exit id := inv_any hc
 subst e
 exact wpIn_exit ⟨ρ, h, hq, hs⟩
def keep (ks : List Nat) (ρ : Env) : Env := ks.map fun i => (i, lk ρ i)
theorem lk_keep (ks : List Nat) (ρ : Env) (i : Nat) : lk (keep ks ρ) i = lk ρ i ∨ lk (keep ks ρ) i = .any := by
 induction ks with
 | nil => exact .inr rfl
 | cons k ks ih =>
  simp only [keep, List.map_cons, lk]
  by_cases e : i = k
  ·subst e; simp
  ·have hb : (i == k) = false := by simpa using e
   rw [hb]
   exact ih
theorem Sim.less {w0 : W0} {h0 : Heap} {ρ1 : Env} {a : Act} {w : World} (hs : Sim G w0 h0 N ρ h a w) (hl : ∀ i, lk ρ1 i = lk ρ i ∨ lk ρ1 i = .any) : Sim G w0 h0 N ρ1 h a w :=
 ⟨hs.nd, hs.sz, fun i => by rcases hl i with e | e; rw [e]; exact hs.env i; rw [e]; exact .any _, hs.heap, hs.glo, hs.fr⟩
theorem Sim.forget {w0 : W0} {h0 h1 : Heap} {a : Act} {w : World} (hs : Sim G w0 h0 N ρ h a w) (hle : ∀ b x, h1 b = some x → h b = some x) : Sim G w0 h0 N ρ h1 a w :=
 have ⟨k1, k2⟩ := hrep_less hs.heap hle
 ⟨hs.nd, hs.sz, hs.env.keep k2.keeps, k1, hs.glo.keep k2.keeps, hs.fr.trans k2⟩
def thn (ks : List Nat) (K : Env → Heap → Prop) (Q : Exit → Env → Heap → Prop) : Exit → Env → Heap → Prop
 | .normal, ρ, h => K (keep ks ρ) h
 | e, ρ, h => Q e ρ h
theorem Wp.seq {ks : List Nat} {x y : ACode} (hq : Wp P G N x ρ h (thn ks (fun ρ' h' => Wp P G N y ρ' h' Q) Q)) : Wp P G N (.seq ks x y) ρ h Q := by
 intro ro c hc w0 h0 a w hs
 obtain ⟨c1, c2, rfl, h1, h2⟩ := inv_any hc
 refine wpIn_seq (wpIn_mono (hq ro c1 h1 w0 h0 a w hs) ?_)
 rintro e a' w' ⟨ρ', h', q, s⟩
 cases e with
 | normal => exact q ro c2 h2 w0 h0 a' w' (s.less (lk_keep ks ρ'))
 | exit id => exact ⟨ρ', h', q, s⟩
 | goto l => exact ⟨ρ', h', q, s⟩
 | ret => exact ⟨ρ', h', q, s⟩
 | panic ch => exact ⟨ρ', h', q, s⟩
 | outgrown => exact ⟨ρ', h', q, s⟩
theorem Wp.cond {o : Operand} {x y : ACode} {b : Bool} (ho : xv G ρ o = .bool b) (hy : b = true → Wp P G N x ρ h Q) (hn : b = false → Wp P G N y ρ h Q) : Wp P G N (.cond o x y) ρ h Q := by
 intro ro c hc w0 h0 a w hs
 obtain ⟨c1, c2, rfl, h1, h2⟩ := inv_any hc
 have hr := rep_xv hs.glo hs.env o
 rw [ho] at hr
 refine wpIn_cond_split (rep_bool hr) (fun e => hy e ro c1 h1 w0 h0 a w hs) (fun e => hn e ro c2 h2 w0 h0 a w hs)
theorem stepR_scope {P : Program} {b : Frame} {a : Act} {k : List Item} {cs : List Frame} {w : World} {c : Code} : step P (lone (b.atR a (.code (.scope c) :: k)) cs w) = .next (lone (b.atR a (.code c :: .inScope c :: k)) cs w) :=
 step_lone_go (by simp [stepG, stepG.exec, Frame.atR])
theorem stepR_inScope {P : Program} {b : Frame} {a : Act} {k : List Item} {cs : List Frame} {w : World} {c : Code} : step P (lone (b.atR a (.inScope c :: k)) cs w) = .next (lone (b.atR a k) cs w) :=
 step_lone_go (by simp [stepG, stepG.exec, Frame.atR])
theorem wpIn_scope {F : Fence} {n : Nat} {P : Program} {Q : Exit → Act → World → Prop} {a : Act} {w : World} {c : Code} (h : c.wpIn F n P (fun e a w => (∀ l, e ≠ .goto l) ∧ Q e a w) a w) : (Code.scope c).wpIn F n P Q a w := by
 intro b k cs hro hb hr
 have h0 : (lone (b.atR a (.code (.scope c) :: k)) cs w).fenced P F := fenced_calm hb hr rfl
 obtain ⟨e, a₁, w₁, ⟨hng, hq⟩, harr⟩ := h b (.inScope c :: k) cs hro hb hr
 cases e with
 | normal => exact ⟨.normal, a₁, w₁, hq, .head h0 stepR_scope (StepsIn.trans harr (.one (fenced_calm hb hr rfl) stepR_inScope))⟩
 | exit id' =>
  have hx : exitTo id' (.inScope c :: k) = exitTo id' k := by simp [exitTo]
  exact ⟨.exit id', a₁, w₁, hq, fun k' hk => .head h0 stepR_scope (harr.1 k' (by rw [hx]; exact hk)),
   fun hr' hk => let ⟨k₁, h1, h2⟩ := harr.2 hr' (by rw [hx]; exact hk); ⟨k₁, h1, .head h0 stepR_scope h2⟩⟩
 | goto l => exact absurd rfl (hng l)
 | ret => exact ⟨_, a₁, w₁, hq, .of_steps (.one h0 stepR_scope) harr⟩
 | panic ch => exact ⟨_, a₁, w₁, hq, .of_steps (.one h0 stepR_scope) harr⟩
 | outgrown => exact ⟨_, a₁, w₁, hq, .of_steps (.one h0 stepR_scope) harr⟩
def scQ (Q : Exit → Env → Heap → Prop) : Exit → Env → Heap → Prop
 | .goto _, _, _ => False
 | e, ρ, h => Q e ρ h
theorem Wp.scp {x : ACode} (hq : Wp P G N x ρ h (scQ Q)) : Wp P G N (.scp x) ρ h Q := by
 intro ro c hc w0 h0 a w hs
 obtain ⟨c1, rfl, h1⟩ := inv_any hc
 refine wpIn_scope (wpIn_mono (hq ro c1 h1 w0 h0 a w hs) ?_)
 rintro e a' w' ⟨ρ', h', q, s⟩
 cases e <;> simp only [scQ] at q
 all_goals first | exact q.elim | exact ⟨fun l e => (by cases e), ρ', h', q, s⟩
theorem Wp.lab (hq : Q .normal ρ h) : Wp P G N .lab ρ h Q := by
 intro ro c hc w0 h0 a w hs
 obtain ⟨l, rfl⟩ := inv_any hc
 exact wpIn_label ⟨ρ, h, hq, hs⟩
def blk (id : Nat) (Q : Exit → Env → Heap → Prop) : Exit → Env → Heap → Prop
 | .exit id', ρ, h => if id' = id then Q .normal ρ h else Q (.exit id') ρ h
 | e, ρ, h => Q e ρ h
theorem Wp.block {id : Nat} {x : ACode} (hq : Wp P G N x ρ h (blk id Q)) : Wp P G N (.block id x) ρ h Q := by
 intro ro c hc w0 h0 a w hs
 obtain ⟨c1, rfl, h1⟩ := inv_any hc
 refine wpIn_block (wpIn_mono (hq ro c1 h1 w0 h0 a w hs) ?_)
 rintro e a' w' ⟨ρ', h', q, s⟩
 cases e with
 | exit id' =>
  simp only [blk] at q
  simp only [Exit.inBlock]
  split
  ·rename_i e; rw [if_pos e] at q; exact ⟨ρ', h', q, s⟩
  ·rename_i e; rw [if_neg e] at q; exact ⟨ρ', h', q, s⟩
 | normal => exact ⟨ρ', h', q, s⟩
 | goto l => exact ⟨ρ', h', q, s⟩
 | ret => exact ⟨ρ', h', q, s⟩
 | panic ch => exact ⟨ρ', h', q, s⟩
 | outgrown => exact ⟨ρ', h', q, s⟩
theorem Wp.reg {ops : List AOp} (hq : rwp P G ops ρ h fun ρ' h' => Q .normal ρ' h') : Wp P G N (.reg ops) ρ h Q := by
 intro ro c hc w0 h0 a w hs
 obtain ⟨id, l, rfl, h1⟩ := inv_any hc
 refine wpIn_region ?_
 rw [List.range_eq_range']
 exact reg_sound h1 (R := fun e a' w' => ∃ ρ' h', Q e ρ' h' ∧ Sim G w0 h0 N ρ' h' a' w') (K := fun ρ' h' => Q .normal ρ' h') (fun ρ' h' a' w' q s => ⟨ρ', h', q, s⟩) l.size 0 ρ h a w (by omega) hs hq
def Lp (P : Program) (G : Glo) (N : Nat) (x : ACode) (Q : Exit → Env → Heap → Prop) (n : Nat) (ρ : Env) (h : Heap) : Prop :=
 ∀ (ro : Option Nat) c, trC P N c = some x.bare → ∀ w0 h0 a w, Sim G w0 h0 N ρ h a w → Code.roundsIn (FR ro) 0 P c (fun e a' w' => ∃ ρ' h', Q e ρ' h' ∧ Sim G w0 h0 N ρ' h' a' w') n a w
theorem Lp.succ {x : ACode} {n : Nat} (ks : List Nat) (hq : Wp P G N x ρ h (thn ks (fun ρ' h' => Lp P G N x Q n ρ' h') Q)) : Lp P G N x Q (n + 1) ρ h := by
 intro ro c hc w0 h0 a w hs
 rw [roundsIn_succ]
 refine wpIn_mono (hq ro c hc w0 h0 a w hs) ?_
 rintro e a' w' ⟨ρ', h', q, s⟩
 cases e with
 | normal => exact q ro c hc w0 h0 a' w' (s.less (lk_keep ks ρ'))
 | exit id => exact ⟨ρ', h', q, s⟩
 | goto l => exact ⟨ρ', h', q, s⟩
 | ret => exact ⟨ρ', h', q, s⟩
 | panic ch => exact ⟨ρ', h', q, s⟩
 | outgrown => exact ⟨ρ', h', q, s⟩
theorem Lp.weak {x : ACode} {n : Nat} {ρ1 : Env} {h1 : Heap} (hw : Lp P G N x Q n ρ1 h1) (hs : ∀ w0 h0 a w, Sim G w0 h0 N ρ h a w → Sim G w0 h0 N ρ1 h1 a w) : Lp P G N x Q n ρ h :=
 fun ro c hc w0 h0 a w s => hw ro c hc w0 h0 a w (hs w0 h0 a w s)
theorem Wp.loop {x : ACode} (n : Nat) (hq : Lp P G N x Q n ρ h) : Wp P G N (.loop x) ρ h Q := by
 intro ro c hc w0 h0 a w hs
 obtain ⟨c1, rfl, h1⟩ := inv_any hc
 exact wpIn_loop_rounds n (hq ro c1 h1 w0 h0 a w hs)
end rules

inductive RV where
 | t (s : Nat)
 | c (s : Nat) (n : Option Nat)
def trRV (P : Program) : ResultVar → Option RV
 | .tmp t => some (.t t)
 | .cell s t => match shapeOf P t with
  | some n => some (.c s n)
  | none => none
def rvOf (ρ : Env) (h : Heap) : RV → Option AV
 | .t s => some (lk ρ s)
 | .c s n => ald h n (lk ρ s)
def resOf (ρ : Env) (h : Heap) (l : List RV) : Option AV :=
 match l.mapM (rvOf ρ h) with
 | some [v] => some v
 | some vs => some (.tup vs)
 | none => none
def retQ (rs : List RV) (Q : AV → Heap → Prop) : Exit → Env → Heap → Prop
 | .normal, ρ, h | .ret, ρ, h => match resOf ρ h rs with
  | some r => Q r h
  | none => False
 | _, _, _ => False
def argEnv (args : List AV) : Env := args.zipIdx.map fun (v, i) => (i, v)
theorem lk_argEnv : ∀ (args : List AV) (k i : Nat), lk ((args.zipIdx k).map fun (v, i) => (i, v)) i = if k ≤ i then (args[i - k]?).getD .any else .any := by
 intro args
 induction args with
 | nil => intro k i; simp [lk]
 | cons a r ih =>
  intro k i
  simp only [List.zipIdx_cons, List.map_cons, lk]
  by_cases e : i = k
  ·subst e; simp
  ·have hb : (i == k) = false := by simpa using e
   rw [hb]
   simp only [cond_false]
   rw [ih (k + 1) i]
   by_cases hk : k ≤ i
   ·rw [if_pos (by omega), if_pos hk]
    obtain ⟨j, hj⟩ : ∃ j, i - k = j + 1 := ⟨i - k - 1, by omega⟩
    rw [hj, List.getElem?_cons_succ, show i - (k + 1) = j by omega]
   ·rw [if_neg (by omega), if_neg hk]
theorem arg_sim {N : Nat} {args : List AV} {vs : List Value} {h : Heap} {w : World} (h1 : HRep w h) (h2 : GRep G w h.dom) (h3 : RepL w h.dom args vs) (hn : args.length ≤ N) :
  Sim G (w, []) h N (argEnv args) h { tmps := vs.toArray ++ Array.replicate (N - vs.toArray.size) undef, defers := [] } w := by
 refine ⟨rfl, by have := h3.1; simp; omega, fun i => ?_, h1, h2, Fr.refl _ _⟩
 unfold argEnv
 rw [lk_argEnv, if_pos (Nat.zero_le _), Nat.sub_zero]
 cases e : args[i]? with
 | none => exact .any _
 | some v =>
  have hlt : i < args.length := (List.getElem?_eq_some_iff.1 e).1
  have hv : vs[i]? = some (vs[i]'(by have := h3.1; omega)) := List.getElem?_eq_getElem _
  have := h3.2 i v _ e hv
  simp only [Option.getD_some]
  rw [Array.getD_eq_getD_getElem?, Array.getElem?_append_left (by have := h3.1; simp; omega)]
  simp only [List.getElem?_toArray, hv, Option.getD_some]
  exact this
theorem res_sound {fn : Func} {rs : List RV} (hr : fn.results.toList.mapM (trRV P) = some rs) {ρ' : Env} {h' : Heap} {a' : Act} {w' : World} (hh : HRep w' h') (he : ERep w' h'.dom ρ' a') {Q : AV → Heap → Prop}
  (q : match resOf ρ' h' rs with | some r => Q r h' | none => False) : ∃ v r, (results fn a'.tmps).run P w' = .ok v w' ∧ Q r h' ∧ Rep w' h'.dom r v := by
 have key : ∀ (l : List ResultVar) (rs : List RV) (vs : List AV), l.mapM (trRV P) = some rs → rs.mapM (rvOf ρ' h') = some vs →
   ∃ cs : List Value, (l.mapM fun (x : ResultVar) => match x with
    | .tmp t => (pure (a'.tmps.getD t undef) : Sem Value)
    | .cell b t => do loadVar t (← asAddr (a'.tmps.getD b undef))).run P w' = .ok cs w' ∧ RepL w' h'.dom vs cs := by
  intro l
  induction l with
  | nil =>
   intro rs vs h1 h2
   simp at h1
   subst h1
   simp at h2
   subst h2
   exact ⟨[], by simp, .nil⟩
  | cons x r ih =>
   intro rs vs h1 h2
   simp only [List.mapM_cons, Option.bind_eq_bind, Option.bind_eq_some_iff] at h1
   obtain ⟨y, hy, s', hs', hm⟩ := h1
   cases hm
   simp only [List.mapM_cons, Option.bind_eq_bind, Option.bind_eq_some_iff] at h2
   obtain ⟨v, hv, t, ht', hm⟩ := h2
   cases hm
   obtain ⟨cs, e1, e2⟩ := ih s' t hs' ht'
   have one : ∃ c, (match x with
    | .tmp t => (pure (a'.tmps.getD t undef) : Sem Value)
    | .cell b t => do loadVar t (← asAddr (a'.tmps.getD b undef))).run P w' = .ok c w' ∧ Rep w' h'.dom v c := by
    cases x with
    | tmp t =>
     cases hy
     cases hv
     exact ⟨_, rfl, he t⟩
    | cell b t =>
     simp only [trRV] at hy
     split at hy
     ·rename_i n hn'
      cases hy
      obtain ⟨c', k1, k2⟩ := ald_sound (P := P) hh hv (he b) hn'
      refine ⟨c', ?_, k2⟩
      show (do loadVar t (← asAddr (a'.tmps.getD b undef)) : Sem Value).run P w' = .ok c' w'
      have he := he b
      simp only [rvOf] at hv
      unfold ald at hv
      split at hv
      ·rename_i e
       rw [e] at he
       rw [rep_ptr he] at k1 ⊢
       simpa [Instr.loadAt, Instr.sureAddr, asAddr] using k1
      ·rename_i e
       rw [e] at he
       obtain ⟨b', o', _, hc, _⟩ := rep_cp he
       rw [hc] at k1 ⊢
       simpa [Instr.loadAt, Instr.sureAddr, asAddr] using k1
      ·cases hv
     ·cases hy
   obtain ⟨c, f1, f2⟩ := one
   refine ⟨c :: cs, ?_, e2.cons f2⟩
   simp only [List.mapM_cons, Sem.run_bind, f1, Result.andThen_ok, e1, Sem.run_pure]
 unfold resOf at q
 have fin : ∀ vs, rs.mapM (rvOf ρ' h') = some vs → ∀ r, (match vs with | [v] => v | vs => AV.tup vs) = r → Q r h' →
   ∃ v r, (results fn a'.tmps).run P w' = .ok v w' ∧ Q r h' ∧ Rep w' h'.dom r v := by
  intro vs hvs r hr' hq
  obtain ⟨cs, e1, e2⟩ := key fn.results.toList rs vs hr hvs
  have hm : (fn.results.mapM fun (x : ResultVar) => match x with
    | .tmp t => (pure (a'.tmps.getD t undef) : Sem Value)
    | .cell b t => do loadVar t (← asAddr (a'.tmps.getD b undef))).run P w' = .ok cs.toArray w' := by
   rw [Array.mapM_eq_mapM_toList, Sem.run_map, e1]
   rfl
  have hrun : (results fn a'.tmps).run P w' = .ok (if hh : cs.toArray.size = 1 then cs.toArray[0] else .tuple cs.toArray) w' := by
   unfold results
   rw [Sem.run_bind]
   exact congrArg (fun r => Result.andThen r fun vs w' => Result.ok (if hh : vs.size = 1 then vs[0] else .tuple vs) w') hm
  refine ⟨_, r, hrun, hq, ?_⟩
  have hlen := e2.1
  split
  ·rename_i h1
   obtain ⟨c, rfl⟩ : ∃ c, cs = [c] := List.length_eq_one_iff.1 (by simpa using h1)
   obtain ⟨v, rfl⟩ : ∃ v, vs = [v] := List.length_eq_one_iff.1 (by simpa using hlen)
   subst hr'
   exact e2.2 0 v c rfl rfl
  ·rename_i h1
   have hne : vs.length ≠ 1 := by simp at h1; omega
   have : r = .tup vs := by
    match vs, hne, hr' with
    | [], _, hr' => exact hr'.symm
    | [_], hne, _ => exact absurd rfl hne
    | _ :: _ :: _, _, hr' => exact hr'.symm
   rw [this]
   exact .tup _ _ (by simpa using hlen) (fun i v c hv hc => e2.2 i v c hv (by simpa using hc))
 split at q
 ·rename_i r hres
  split at hres
  ·rename_i v hvs
   cases hres
   exact fin _ hvs _ rfl q
  ·rename_i vs hne hvs
   cases hres
   refine fin vs hvs _ ?_ q
   split
   ·rename_i v
    exact absurd rfl (hne v)
   ·rfl
  ·cases hres
 ·exact q.elim
theorem body_wp {fn : Func} {c : Code} {ac : ACode} {rs : List RV} {args : List AV} {h : Heap} {Q : AV → Heap → Prop}
  (ht : trC P fn.ntmps c = some ac.bare) (hr : fn.results.toList.mapM (trRV P) = some rs) (hn : args.length ≤ fn.ntmps) (hw : Wp P G fn.ntmps ac (argEnv args) h (retQ rs Q))
  {w : World} {vs : List Value} (h1 : HRep w h) (h2 : GRep G w h.dom) (h3 : RepL w h.dom args vs) :
  c.wp P (bodyPost P fn fun e w' => ∃ v r h', e = .returned v ∧ Q r h' ∧ HRep w' h' ∧ Rep w' h'.dom r v ∧ Fr w h w' h') { tmps := vs.toArray ++ Array.replicate (fn.ntmps - vs.toArray.size) undef, defers := [] } w := by
 refine (wpIn_wide (n := 0)).1 (wpIn_mono (hw none c ht (w, []) h _ w (arg_sim h1 h2 h3 hn)) ?_)
 rintro e a' w' ⟨ρ', h', q, s⟩
 cases e with
 | normal =>
  obtain ⟨v, r, e1, e2, e3⟩ := res_sound (Q := Q) hr s.heap s.env q
  exact ⟨s.nd, v, e1, v, r, h', rfl, e2, s.heap, e3, s.fr⟩
 | ret =>
  obtain ⟨v, r, e1, e2, e3⟩ := res_sound (Q := Q) hr s.heap s.env q
  exact ⟨s.nd, v, e1, v, r, h', rfl, e2, s.heap, e3, s.fr⟩
 | exit id => exact q.elim
 | goto l => exact q.elim
 | panic ch => exact q.elim
 | outgrown => exact q.elim
theorem Spec.of_body {f : FuncId} {fn : Func} {c : Code} {ac : ACode} {rs : List RV} {args : List AV} {h : Heap} {Q : AV → Heap → Prop} (hf : P.funcs[f]? = some fn) (hb : fn.body = some c)
  (ht : trC P fn.ntmps c = some ac.bare) (hr : fn.results.toList.mapM (trRV P) = some rs) (hn : args.length ≤ fn.ntmps) (hw : Wp P G fn.ntmps ac (argEnv args) h (retQ rs Q)) : Spec P G f args h Q :=
 fun _ _ h1 h2 h3 => calls_of_wp hf hb (body_wp ht hr hn hw h1 h2 h3)
def SpecD (P : Program) (G : Glo) (f : FuncId) (args : List AV) (h : Heap) (Q : AV → Heap → Prop) : Prop :=
 ∀ (w : World) (vs : List Value) (u : FrameMode), HRep w h → GRep G w h.dom → RepL w h.dom args vs →
  CallsD P f vs.toArray u w fun e u' w' => u' = u ∧ ∃ v r h', e = .returned v ∧ Q r h' ∧ HRep w' h' ∧ Rep w' h'.dom r v ∧ Fr w h w' h'
theorem SpecD.of_body {f : FuncId} {fn : Func} {c : Code} {ac : ACode} {rs : List RV} {args : List AV} {h : Heap} {Q : AV → Heap → Prop} (hf : P.funcs[f]? = some fn) (hb : fn.body = some c)
  (ht : trC P fn.ntmps c = some ac.bare) (hr : fn.results.toList.mapM (trRV P) = some rs) (hn : args.length ≤ fn.ntmps) (hw : Wp P G fn.ntmps ac (argEnv args) h (retQ rs Q)) : SpecD P G f args h Q :=
 fun _ _ _ h1 h2 h3 => callsD_of_wp hf hb (body_wp ht hr hn hw h1 h2 h3)
def trD (P : Program) (fn : Func) : Option (ACode × (Nat × Nat × List Operand) × ACode × List RV) :=
 match fn.body with
 | some (.seq a (.seq (.region _ ops false) c)) => match ops.toList with
  | [⟨some d, .makeFunc (.func g) first caps, _, _, _, none⟩, ⟨none, .defer ⟨.value (.tmp d'), args, _⟩, _, _, _, none⟩] =>
   match trC P fn.ntmps a, trC P fn.ntmps c, fn.results.toList.mapM (trRV P), P.funcs[g]? with
   | some x, some y, some rs, some gn => if d = d' ∧ d < fn.ntmps ∧ first.size = 0 ∧ args.size = 0 ∧ gn.body.isSome ∧ (gn.name == "runtime.NumGoroutine") = false then some (x, (d, g, caps.toList), y, rs) else none
   | _, _, _, _ => none
  | _ => none
 | _ => none
def defQ (P : Program) (G : Glo) (g : Nat) (vs : List AV) (rs : List RV) (Q : AV → Heap → Prop) : Exit → Env → Heap → Prop
 | .normal, ρ, h | .ret, ρ, h => SpecD P G g vs h fun _ h1 => match resOf ρ h1 rs with
  | some r => Q r h1
  | none => False
 | _, _, _ => False
end
end Go.Ab
end
