/- A frame for walks over what values stand for, part Ab1. -/
import Derived.WalkKit
import Derived.KernelRfl
import Derived.WalkSpells
import Derived.RangeFuncOwn
import Derived.OrdersIn
import Derived.DefersIn
namespace Go.Ab
/-- What is known of a value: data written out, places that are owned (blocks by their numbers), data that stays as it is. -/
inductive AV where
  | any
  | int (k : IntKind) (n : Int)
  | bool (b : Bool)
  | str (s : ByteArray)
  | nilp
  | ptr (b off : Nat)
  | cp (cells : List AV) (off : Nat)
  | nils
  | sl (b off len cap : Nat)
  | ro (cells : List AV) (len : Nat)
  | agg (cells : List AV)
  | tup (vs : List AV)
  | fn (f : Nat) (first caps : List AV)
  | nilf
  | raw (o : Obj)
  | mpp (r : Option Nat)
  | yl (l : Nat)
  deriving Inhabited

structure Blk where
  cells : List AV
  spare : Nat
  deriving Inhabited
abbrev Heap := Nat → Option Blk
def Heap.dom (h : Heap) (b : Nat) : Prop := h b ≠ none
def upd (h : Heap) (b : Nat) (x : Blk) : Heap := fun c => if c = b then some x else h c
def era (h : Heap) (b : Nat) : Heap := fun c => if c = b then none else h c

/-- Is a block cells? -/
def isC (w : World) (b : Nat) : Prop := ∃ c t f, w.heap[b]? = some (.cells c t f)
inductive Rep (w : World) (O : Nat → Prop) : AV → Value → Prop
  | any (v : Value) : Rep w O .any v
  | int (k : IntKind) (n : Int) : Rep w O (.int k n) (.int k n)
  | bool (b : Bool) : Rep w O (.bool b) (.bool b)
  | str (s : ByteArray) : Rep w O (.str s) (.string s)
  | nilp : Rep w O .nilp (.pointer none)
  | ptr (b off : Nat) (hk : isC w b) : Rep w O (.ptr b off) (.pointer (some ⟨b, off, none⟩))
  | cp (cells : List AV) (off b o : Nat) (cs : Nat → Value) (hb : b < w.heap.size) (hO : ¬ O b)
      (hc : ∀ i v, cells[i]? = some v → w.cell? ⟨b, o + i, none⟩ = some (cs i) ∧ (cs i).oneCell' = true)
      (hr : ∀ i v, cells[i]? = some v → Rep w O v (cs i)) : Rep w O (.cp cells off) (.pointer (some ⟨b, o + off, none⟩))
  | nils : Rep w O .nils (.slice none 0 0)
  | sl (b off len cap : Nat) (hlc : len ≤ cap) (hk : isC w b) : Rep w O (.sl b off len cap) (.slice (some ⟨b, off, none⟩) len cap)
  | sl0 (b off : Nat) (a : Addr) : Rep w O (.sl b off 0 0) (.slice (some a) 0 0)
  | roe (a : Option Addr) (cap : Nat) : Rep w O (.ro [] 0) (.slice a 0 cap)
  | ro (cells : List AV) (len cap b o : Nat) (cs : Nat → Value) (hlc : len ≤ cap) (hb : b < w.heap.size) (hO : ¬ O b)
      (hc : ∀ i v, cells[i]? = some v → w.cell? ⟨b, o + i, none⟩ = some (cs i) ∧ (cs i).oneCell' = true)
      (hr : ∀ i v, cells[i]? = some v → Rep w O v (cs i)) : Rep w O (.ro cells len) (.slice (some ⟨b, o, none⟩) len cap)
  | agg (cells : List AV) (cs : Array Value) (hl : cells.length = cs.size) (h1 : ∀ (i : Nat) (c : Value), cs[i]? = some c → c.oneCell' = true)
      (hr : ∀ (i : Nat) (v : AV) (c : Value), cells[i]? = some v → cs[i]? = some c → Rep w O v c) : Rep w O (.agg cells) (.agg cs)
  | tup (vs : List AV) (cs : Array Value) (hl : vs.length = cs.size)
      (hr : ∀ (i : Nat) (v : AV) (c : Value), vs[i]? = some v → cs[i]? = some c → Rep w O v c) : Rep w O (.tup vs) (.tuple cs)
  | fn (f : Nat) (first caps : List AV) (as cs : Array Value) (hl : first.length = as.size) (hl' : caps.length = cs.size)
      (hr : ∀ (i : Nat) (v : AV) (c : Value), first[i]? = some v → as[i]? = some c → Rep w O v c)
      (hr' : ∀ (i : Nat) (v : AV) (c : Value), caps[i]? = some v → cs[i]? = some c → Rep w O v c) : Rep w O (.fn f first caps) (.func (.func f) as cs)
  | nilf : Rep w O .nilf .nilFunc
  | mpp (r : Option Nat) : Rep w O (.mpp r) (.map r)
  | yl (l : Nat) : Rep w O (.yl l) (.func (.yield l) #[] #[])

/-- From (w, O) to (w', O') what is known of data that stays is kept. -/
def Keeps (w : World) (O : Nat → Prop) (w' : World) (O' : Nat → Prop) : Prop :=
  w.heap.size ≤ w'.heap.size ∧ (∀ b, b < w.heap.size → ¬ O b → ¬ O' b ∧ w'.heap[b]? = w.heap[b]?) ∧ ∀ b, isC w b → isC w' b

theorem Keeps.refl (w : World) (O : Nat → Prop) : Keeps w O w O := ⟨Nat.le_refl _, fun _ _ h => ⟨h, rfl⟩, fun _ h => h⟩
theorem Keeps.trans {w w1 w2 : World} {O O1 O2 : Nat → Prop} (h : Keeps w O w1 O1) (h' : Keeps w1 O1 w2 O2) : Keeps w O w2 O2 :=
  ⟨Nat.le_trans h.1 h'.1, fun b hb ho =>
    have ⟨x, y⟩ := h.2.1 b hb ho
    have ⟨z, t⟩ := h'.2.1 b (Nat.lt_of_lt_of_le hb h.1) x
    ⟨z, t.trans y⟩, fun b hb => h'.2.2 b (h.2.2 b hb)⟩
theorem cell_of_heap {w w' : World} {b o : Nat} (h : w'.heap[b]? = w.heap[b]?) : w'.cell? ⟨b, o, none⟩ = w.cell? ⟨b, o, none⟩ := by
  simp only [World.cell?, h]

theorem Rep.keep {w w' : World} {O O' : Nat → Prop} (hk : Keeps w O w' O') {a : AV} {v : Value} (h : Rep w O a v) : Rep w' O' a v := by
  induction h with
  | any v => exact .any v
  | int k n => exact .int k n
  | bool b => exact .bool b
  | str s => exact .str s
  | nilp => exact .nilp
  | ptr b off hc => exact .ptr b off (hk.2.2 b hc)
  | cp cells off b o cs hb hO hc hr ih =>
    have ⟨x, y⟩ := hk.2.1 b hb hO
    exact .cp cells off b o cs (Nat.lt_of_lt_of_le hb hk.1) x (fun i v hv => ⟨(cell_of_heap y).trans (hc i v hv).1, (hc i v hv).2⟩) (fun i v hv => ih i v hv)
  | nils => exact .nils
  | sl b off len cap hlc hc => exact .sl b off len cap hlc (hk.2.2 b hc)
  | sl0 b off a => exact .sl0 b off a
  | roe a cap => exact .roe a cap
  | ro cells len cap b o cs hlc hb hO hc hr ih =>
    have ⟨x, y⟩ := hk.2.1 b hb hO
    exact .ro cells len cap b o cs hlc (Nat.lt_of_lt_of_le hb hk.1) x (fun i v hv => ⟨(cell_of_heap y).trans (hc i v hv).1, (hc i v hv).2⟩) (fun i v hv => ih i v hv)
  | agg cells cs hl h1 hr ih => exact .agg cells cs hl h1 ih
  | tup vs cs hl hr ih => exact .tup vs cs hl ih
  | fn f first caps as cs hl hl' hr hr' ih ih' => exact .fn f first caps as cs hl hl' ih ih'
  | nilf => exact .nilf
  | mpp r => exact .mpp r
  | yl l => exact .yl l

/-- An owned block of cells is as it is told. -/
def CRep (w : World) (h : Heap) (b : Nat) (x : Blk) : Prop :=
  ∃ (c : Array Value) (t : TypeId), w.heap[b]? = some (.cells c t (0, 0)) ∧ x.cells.length + x.spare = c.size ∧
    ∀ (i : Nat) (v : AV), x.cells[i]? = some v → ∃ cv, c[i]? = some cv ∧ cv.oneCell' = true ∧ Rep w h.dom v cv
/-- An owned block that is no cells: the object itself. -/
def ORep (w : World) (b : Nat) (x : Blk) : Prop := ∃ o : Obj, x = ⟨[.raw o], 0⟩ ∧ o.isCells = false ∧ w.heap[b]? = some o
/-- The owned blocks are as they are told. -/
def HRep (w : World) (h : Heap) : Prop := ∀ b x, h b = some x → CRep w h b x ∨ ORep w b x
theorem isC_not {w : World} {b : Nat} {o : Obj} (hc : isC w b) (ho : w.heap[b]? = some o) : o.isCells = true := by
  obtain ⟨c, t, f, e⟩ := hc
  rw [e] at ho
  cases ho
  rfl
theorem HRep.cells {w : World} {h : Heap} (hh : HRep w h) {b : Nat} {x : Blk} (hb : h b = some x) (hc : isC w b) : CRep w h b x := by
  rcases hh b x hb with hk | ⟨o, _, h1, h2⟩
  · exact hk
  · rw [isC_not hc h2] at h1; cases h1
theorem HRep.obj {w : World} {h : Heap} (hh : HRep w h) {b : Nat} {o : Obj} {sp : Nat} (hb : h b = some ⟨[.raw o], sp⟩) : w.heap[b]? = some o ∧ o.isCells = false := by
  rcases hh b _ hb with ⟨c, t, _, _, hr⟩ | ⟨o', h0, h1, h2⟩
  · obtain ⟨cv, _, _, hr⟩ := hr 0 (.raw o) rfl
    cases hr
  · simp only [Blk.mk.injEq, List.cons.injEq, AV.raw.injEq, and_true] at h0
    rw [h0.1]; exact ⟨h2, h1⟩
def RepL (w : World) (O : Nat → Prop) (as : List AV) (vs : List Value) : Prop :=
  as.length = vs.length ∧ ∀ (i : Nat) (a : AV) (v : Value), as[i]? = some a → vs[i]? = some v → Rep w O a v
/-- What a walk leans on: what is known of the globals, what a call of yield does, what else is known of values. -/
structure Glo where
  g : Nat → AV
  y : Nat → List AV → Heap → (AV → Heap → Prop) → Prop
  e : AV → Value → Prop
instance : CoeFun Glo (fun _ => Nat → AV) := ⟨Glo.g⟩
/-- Only globals are known. -/
def Glo.of (g : Nat → AV) : Glo := ⟨g, fun _ _ _ _ => False, fun _ _ => False⟩
def GRep (G : Glo) (w : World) (O : Nat → Prop) : Prop := (∀ g, Rep w O (G g) (.pointer (some ⟨g, 0, none⟩))) ∧ ∀ x v, G.e x v → Rep w O x v
theorem GRep.keep {G : Glo} {w w' : World} {O O' : Nat → Prop} (hk : Keeps w O w' O') (h : GRep G w O) : GRep G w' O' := ⟨fun g => (h.1 g).keep hk, fun x v e => (h.2 x v e).keep hk⟩
theorem RepL.keep {w w' : World} {O O' : Nat → Prop} (hk : Keeps w O w' O') {as : List AV} {vs : List Value} (h : RepL w O as vs) : RepL w' O' as vs :=
  ⟨h.1, fun i a v ha hv => (h.2 i a v ha hv).keep hk⟩
theorem RepL.nil {w : World} {O : Nat → Prop} : RepL w O [] [] := ⟨rfl, fun i a v h => by simp at h⟩
theorem RepL.cons {w : World} {O : Nat → Prop} {a : AV} {v : Value} {as : List AV} {vs : List Value} (h : Rep w O a v) (h' : RepL w O as vs) :
    RepL w O (a :: as) (v :: vs) :=
  ⟨by simp [h'.1], fun i b c hb hc => by
    cases i with
    | zero => simp at hb hc; subst hb; subst hc; exact h
    | succ i => simp at hb hc; exact h'.2 i b c hb hc⟩

/-- What a call may do to the world: owned blocks (h) and new ones turn, no other. -/
structure Fr (w : World) (h : Heap) (w' : World) (h' : Heap) : Prop where
  size : w.heap.size ≤ w'.heap.size
  blk : ∀ b, b < w.heap.size → h b = none → h' b = none ∧ w'.heap[b]? = w.heap[b]?
  cel : ∀ b, isC w b → isC w' b
  os : w'.os = w.os
  tape : w'.tape = w.tape
  out : w'.output = w.output
theorem Fr.keeps {w w' : World} {h h' : Heap} (hf : Fr w h w' h') : Keeps w h.dom w' h'.dom :=
  ⟨hf.size, fun b hb hn => by
    have hn' : h b = none := Classical.not_not.1 hn
    have ⟨x, y⟩ := hf.blk b hb hn'
    exact ⟨fun hd => hd x, y⟩, hf.cel⟩
theorem Fr.refl (w : World) (h : Heap) : Fr w h w h := ⟨Nat.le_refl _, fun _ _ hn => ⟨hn, rfl⟩, fun _ h => h, rfl, rfl, rfl⟩
theorem Fr.trans {w w1 w2 : World} {h h1 h2 : Heap} (a : Fr w h w1 h1) (b : Fr w1 h1 w2 h2) : Fr w h w2 h2 :=
  ⟨Nat.le_trans a.size b.size, fun c hc hn =>
    have ⟨x, y⟩ := a.blk c hc hn
    have ⟨z, t⟩ := b.blk c (Nat.lt_of_lt_of_le hc a.size) x
    ⟨z, t.trans y⟩, fun c hc => b.cel c (a.cel c hc), b.os.trans a.os, b.tape.trans a.tape, b.out.trans a.out⟩

/-- A call's contract: with these arguments and owned blocks it returns, and what is behind it meets Q. -/
def Spec (P : Program) (G : Glo) (f : FuncId) (args : List AV) (h : Heap) (Q : AV → Heap → Prop) : Prop :=
  ∀ (w : World) (vs : List Value), HRep w h → GRep G w h.dom → RepL w h.dom args vs →
    Calls P f vs.toArray w fun e w' => ∃ v r h', e = .returned v ∧ Q r h' ∧ HRep w' h' ∧ Rep w' h'.dom r v ∧ Fr w h w' h'
theorem Spec.mono {P : Program} {G : Glo} {f : FuncId} {args : List AV} {h : Heap} {Q Q' : AV → Heap → Prop} (hs : Spec P G f args h Q)
    (hq : ∀ r h', Q r h' → Q' r h') : Spec P G f args h Q' :=
  fun w vs h1 h2 h3 => (hs w vs h1 h2 h3).mono fun _ _ ⟨v, r, h', a, b, c⟩ => ⟨v, r, h', a, hq _ _ b, c⟩

/-- What a call of yield does is as it is told. -/
def YOk (P : Program) (G : Glo) : Prop :=
  ∀ l args h Q, G.y l args h Q → ∀ (w : World) (vs : List Value), HRep w h → GRep G w h.dom → RepL w h.dom args vs →
    YieldAt Fence.wide 0 P l vs.toArray w fun e w' => ∃ v r h', e = .returned v ∧ Q r h' ∧ HRep w' h' ∧ Rep w' h'.dom r v ∧ Fr w h w' h'
/-- What is known of a result and the owned blocks may be told weaker. -/
def Le (r : AV) (h : Heap) (r' : AV) (h' : Heap) : Prop :=
  ∀ (w : World) (v : Value), HRep w h → Rep w h.dom r v → HRep w h' ∧ Rep w h'.dom r' v ∧ (∀ b, h b = none → h' b = none)
theorem Spec.weak {P : Program} {G : Glo} {f : FuncId} {args : List AV} {h : Heap} {Q Q' : AV → Heap → Prop} (hs : Spec P G f args h Q)
    (hq : ∀ r h1, Q r h1 → ∃ r' h2, Q' r' h2 ∧ Le r h1 r' h2) : Spec P G f args h Q' :=
  fun w vs h1 h2 h3 => (hs w vs h1 h2 h3).mono fun _ w' ⟨v, r, h', a, b, c, d, e⟩ => by
    obtain ⟨r', h2, hq', hl⟩ := hq _ _ b
    obtain ⟨x, y, z⟩ := hl w' v c d
    exact ⟨v, r', h2, a, hq', x, y, e.size, fun b hb hn => ⟨z b (e.blk b hb hn).1, (e.blk b hb hn).2⟩, e.cel, e.os, e.tape, e.out⟩
end Go.Ab
