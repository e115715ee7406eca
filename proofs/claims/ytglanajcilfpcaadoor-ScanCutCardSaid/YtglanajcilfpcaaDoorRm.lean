/- Events as bytes: what the document says, over numbers and lists alone. -/
import Derived.Test.YtglanajcilfpcaaDoorWd
set_option linter.unusedVariables false
namespace Go.Ab
structure Kp where
  st : BitVec 32
  ie : BitVec 32
  tv : BitVec 32
  sc : BitVec 32
  ep : BitVec 32
  ca : BitVec 32
  tl : BitVec 32
  deriving DecidableEq
def Kp.l (k : Kp) : List (BitVec 32) := [k.st, k.ie, k.tv, k.sc, k.ep, k.ca, k.tl]
@[push_cast] theorem Kp.l_len (k : Kp) : k.l.length = 7 := rfl
def Kp.zero : Kp := ⟨0, 0, 0, 0, 0, 0, 0⟩
abbrev Rg := Vector (BitVec 32) 32
def Rg.zero : Rg := Vector.replicate 32 0
structure Evt where
  kind : Int
  tick : BitVec 64
  value : BitVec 32
  cause : BitVec 32
  epc : BitVec 32
  tval : BitVec 32
  regs : Rg
  csrs : Kp
  deriving DecidableEq
def Evt.cells (e : Evt) : List AV := [.int .i64 e.kind, .int .u64 e.tick.toNat, .int .u32 e.value.toNat, .int .u32 e.cause.toNat, .int .u32 e.epc.toNat, .int .u32 e.tval.toNat] ++ (wds e.regs.toList ++ wds e.csrs.l)
theorem Evt.len (e : Evt) : e.cells.length = 45 := by simp [Evt.cells, wds, Kp.l]
abbrev evts (l : List Evt) : AV := .ro (l.flatMap Evt.cells) l.length
/-- An event that shows nothing but its kind, tick and value. -/
def Evt.bare (e : Evt) : Evt := ⟨e.kind, e.tick, e.value, 0, 0, 0, Rg.zero, Kp.zero⟩
def Evt.right (e : Evt) : Bool := if e.kind = 1 then decide (e.value.toNat ≤ 255) && decide (e = e.bare) else if e.kind = 2 then decide (e.value = 0) else if e.kind = 3 then decide (e = e.bare) else false
/-- A number, seven bits a byte. -/
def num (n : Nat) : List (BitVec 8) := if h : n < 128 then [BitVec.ofNat 8 n] else BitVec.ofNat 8 (n % 128 + 128) :: num (n / 128)
termination_by n
/-- A word's lowest bytes. -/
def leB (w : BitVec 32) (n : Nat) : List (BitVec 8) := (List.range n).map fun i => (w >>> (8 * i)).setWidth 8
theorem leB_succ (w : BitVec 32) (n : Nat) : leB w (n + 1) = leB w n ++ [(w >>> (8 * n)).setWidth 8] := by simp [leB, List.range_succ]
theorem leB_len (w n) : (leB w n).length = n := by simp [leB]
/-- The number of bytes. -/
def leN : List (BitVec 8) → Nat
  | [] => 0
  | b :: r => b.toNat + 256 * leN r
theorem leN_app (a b : List (BitVec 8)) : leN (a ++ b) = leN a + 256 ^ a.length * leN b := by
  induction a with
  | nil => simp [leN]
  | cons x r ih => simp only [List.cons_append, leN, ih, List.length_cons, Nat.pow_succ]; rw [Nat.mul_add, ← Nat.mul_assoc, Nat.mul_comm 256 (256 ^ r.length)]; omega
theorem leN_lt (a : List (BitVec 8)) : leN a < 256 ^ a.length := by
  induction a with
  | nil => simp [leN]
  | cons x r ih => simp only [leN, List.length_cons, Nat.pow_succ]; have := x.isLt; omega
/-- Which words are not what they were. -/
def msk : List (BitVec 32) → List (BitVec 32) → Nat
  | a :: r, b :: s => (if a = b then 0 else 1) + 2 * msk r s
  | _, _ => 0
def chg : List (BitVec 32) → List (BitVec 32) → List (BitVec 8)
  | a :: r, b :: s => (if a = b then [] else leB a 4) ++ chg r s
  | _, _ => []
theorem msk_lt : ∀ (a b : List (BitVec 32)), msk a b < 2 ^ a.length := by
  intro a
  induction a with
  | nil => intro b; simp [msk]
  | cons x r ih =>
    intro b
    cases b with
    | nil => simp only [msk]; exact Nat.two_pow_pos _
    | cons y s =>
      have := ih s
      simp only [msk, List.length_cons, Nat.pow_succ]
      split <;> omega
theorem msk_snoc : ∀ (a b : List (BitVec 32)) (x y : BitVec 32), a.length = b.length → msk (a ++ [x]) (b ++ [y]) = msk a b + (if x = y then 0 else 2 ^ a.length) := by
  intro a
  induction a with
  | nil =>
    intro b x y h
    cases b with
    | nil => simp [msk]
    | cons _ _ => simp at h
  | cons z r ih =>
    intro b x y h
    cases b with
    | nil => simp at h
    | cons u s =>
      simp only [List.cons_append, msk, ih s x y (by simpa using h), List.length_cons, Nat.pow_succ]
      split <;> split <;> omega
theorem chg_snoc : ∀ (a b : List (BitVec 32)) (x y : BitVec 32), a.length = b.length → chg (a ++ [x]) (b ++ [y]) = chg a b ++ (if x = y then [] else leB x 4) := by
  intro a
  induction a with
  | nil =>
    intro b x y h
    cases b with
    | nil => simp [chg]
    | cons _ _ => simp at h
  | cons z r ih =>
    intro b x y h
    cases b with
    | nil => simp at h
    | cons u s => simp only [List.cons_append, chg, ih s x y (by simpa using h), List.append_assoc]
theorem take_snoc (l : List (BitVec 32)) (k : Nat) (hk : k < l.length) : l.take (k + 1) = l.take k ++ [l.getD k 0#32] := by
  rw [List.take_add_one, List.getElem?_eq_getElem hk]; simp [hk]
theorem chg_len : ∀ (a b : List (BitVec 32)), (chg a b).length ≤ 4 * a.length := by
  intro a
  induction a with
  | nil => intro b; simp [chg]
  | cons x r ih =>
    intro b
    cases b with
    | nil => simp [chg]
    | cons y s =>
      have := ih s
      simp only [chg, List.length_append, List.length_cons]
      split <;> simp [leB_len] <;> omega
theorem num_len (n : Nat) (k : Nat) (h : n < 128 ^ (k + 1)) : (num n).length ≤ k + 1 := by
  induction k generalizing n with
  | zero => rw [num, dif_pos (by simpa using h)]; simp
  | succ k ih =>
    rw [num]
    split
    · simp
    · have := ih (n / 128) (by rw [Nat.pow_succ] at h; omega)
      simp; omega
theorem num_64 (n : BitVec 64) : (num n.toNat).length ≤ 10 := num_len _ 9 (by have := n.isLt; omega)
theorem num_32 (n : BitVec 32) : (num n.toNat).length ≤ 5 := num_len _ 4 (by have := n.isLt; omega)
theorem num_lt {n : Nat} (h : n < 128) : num n = [BitVec.ofNat 8 n] := by rw [num, dif_pos h]
theorem num_ge {n : Nat} (h : ¬ n < 128) : num n = BitVec.ofNat 8 (n % 128 + 128) :: num (n / 128) := by rw [num, dif_neg h]
structure Past where
  tick : BitVec 64
  regs : Rg
  kept : Kp
def Past.zero : Past := ⟨0, Rg.zero, Kp.zero⟩
def Past.cells (p : Past) : List AV := .int .u64 p.tick.toNat :: (wds p.regs.toList ++ wds p.kept.l)
theorem Past.len (p : Past) : p.cells.length = 40 := by simp [Past.cells, wds, Kp.l]
def trapB (e : Evt) (p : Past) : List (BitVec 8) :=
  num e.cause.toNat ++ num e.epc.toNat ++ num e.tval.toNat ++ num (msk e.regs.toList p.regs.toList) ++ chg e.regs.toList p.regs.toList ++ [BitVec.ofNat 8 (msk e.csrs.l p.kept.l)] ++ chg e.csrs.l p.kept.l
def evB (e : Evt) (p : Past) : List (BitVec 8) := BitVec.ofInt 8 e.kind :: (num (e.tick - p.tick).toNat ++ (if e.kind = 1 then [e.value.setWidth 8] else if e.kind = 3 then num e.value.toNat else trapB e p))
def evP (e : Evt) (p : Past) : Past := if e.kind = 1 then { p with tick := e.tick } else if e.kind = 3 then { p with tick := e.tick } else ⟨e.tick, e.regs, e.csrs⟩
def wr : List Evt → Past → Option (List (BitVec 8))
  | [], _ => some []
  | e :: l, p => if e.right = true ∧ p.tick.toNat ≤ e.tick.toNat then (wr l (evP e p)).map (evB e p ++ ·) else none
section
variable (e : Evt) (p : Past) (v : AV)
@[push_cast] theorem Evt.c0 : e.cells[0]? = some (.int .i64 e.kind) := rfl
@[push_cast] theorem Evt.c1 : e.cells[1]? = some (.int .u64 e.tick.toNat) := rfl
@[push_cast] theorem Evt.c2 : e.cells[2]? = some (.int .u32 e.value.toNat) := rfl
@[push_cast] theorem Evt.c3 : e.cells[3]? = some (.int .u32 e.cause.toNat) := rfl
@[push_cast] theorem Evt.c4 : e.cells[4]? = some (.int .u32 e.epc.toNat) := rfl
@[push_cast] theorem Evt.c5 : e.cells[5]? = some (.int .u32 e.tval.toNat) := rfl
theorem wds_part (a b : List (BitVec 32)) : (wds a ++ wds b).take a.length = wds a := by
  have : (wds a).length = a.length := by simp [wds]
  rw [← this, List.take_left]
theorem wds_rest (a b : List (BitVec 32)) : (wds a ++ wds b).drop a.length = wds b := by
  have : (wds a).length = a.length := by simp [wds]
  rw [← this, List.drop_left]
@[push_cast] theorem Evt.regs_s : (e.cells.drop 6).take 32 = wds e.regs.toList := by
  have := wds_part e.regs.toList e.csrs.l
  rw [Vector.length_toList] at this
  exact this
@[push_cast] theorem Evt.csrs_s : (e.cells.drop 38).take 7 = wds e.csrs.l := by
  have := wds_rest e.regs.toList e.csrs.l
  rw [Vector.length_toList] at this
  show ((wds e.regs.toList ++ wds e.csrs.l).drop 32).take 7 = _
  rw [this]
  rfl
@[push_cast] theorem Evt.part_all : partOf e.cells 0 (some 45) = some (.agg e.cells) := by
  rw [partOf_some, if_pos (by rw [e.len]; omega), List.drop_zero, List.take_of_length_le (by rw [e.len]; omega)]
@[push_cast] theorem Evt.part_regs : partOf e.cells 6 (some 32) = some (.agg (wds e.regs.toList)) := by
  rw [partOf_some, if_pos (by rw [e.len]; omega), e.regs_s]
@[push_cast] theorem Evt.part_csrs : partOf e.cells 38 (some 7) = some (.agg (wds e.csrs.l)) := by
  rw [partOf_some, if_pos (by rw [e.len]; omega), e.csrs_s]
@[push_cast] theorem Evt.len' : e.cells.length = 45 := e.len
@[push_cast] theorem Past.len' : p.cells.length = 40 := p.len
@[push_cast] theorem Past.c0 : p.cells[0]? = some (.int .u64 p.tick.toNat) := rfl
theorem Past.reg (k : Nat) (hk : k < 32) : p.cells[1 + k]? = some (.int .u32 (p.regs.toList.getD k 0#32).toNat) := by
  simp only [Past.cells, Nat.add_comm 1 k, List.getElem?_cons_succ]
  rw [List.getElem?_append_left (by simp [wds, hk]), wds_get, if_pos (by simpa using hk)]
theorem Past.kep (k : Nat) (hk : k < 7) : p.cells[33 + k]? = some (.int .u32 (p.kept.l.getD k 0#32).toNat) := by
  rw [show 33 + k = (32 + k) + 1 by omega]
  simp only [Past.cells, List.getElem?_cons_succ]
  rw [List.getElem?_append_right (by simp [wds]), wds_len, Vector.length_toList, Nat.add_sub_cancel_left, wds_get, if_pos (by simpa [Kp.l] using hk)]
theorem Past.set_regs (r : Rg) : splice (v :: p.cells) 2 (wds r.toList) = v :: Past.cells ⟨p.tick, r, p.kept⟩ := by
  rw [splice_ne (by rw [wds_len]; simp), wds_len, Vector.length_toList]
  have := wds_rest p.regs.toList p.kept.l
  rw [Vector.length_toList] at this
  show v :: AV.int .u64 p.tick.toNat :: (wds r.toList ++ (wds p.regs.toList ++ wds p.kept.l).drop 32) = _
  rw [this]
  rfl
theorem Past.set_kept (k : Kp) : splice (v :: p.cells) 34 (wds k.l) = v :: Past.cells ⟨p.tick, p.regs, k⟩ := by
  rw [splice_ne (by rw [wds_len]; simp [Kp.l]), wds_len]
  have h1 := wds_part p.regs.toList p.kept.l
  have h2 := wds_rest p.regs.toList p.kept.l
  rw [Vector.length_toList] at h1 h2
  show v :: AV.int .u64 p.tick.toNat :: ((wds p.regs.toList ++ wds p.kept.l).take 32 ++ wds k.l ++ (wds p.regs.toList ++ wds p.kept.l).drop (32 + 7)) = _
  rw [h1, ← List.drop_drop, h2, List.append_assoc]
  simp [Past.cells, wds, Kp.l]
theorem Past.set_tick (x : BitVec 64) : (v :: p.cells).set 1 (.int .u64 (x.toNat : Int)) = v :: Past.cells ⟨x, p.regs, p.kept⟩ := rfl
@[push_cast] theorem Evt.s1 (x : BitVec 64) : e.cells.set 1 (.int .u64 (x.toNat : Int)) = Evt.cells { e with tick := x } := rfl
@[push_cast] theorem Evt.s2 (x : BitVec 32) : e.cells.set 2 (.int .u32 (x.toNat : Int)) = Evt.cells { e with value := x } := rfl
@[push_cast] theorem Evt.s3 (x : BitVec 32) : e.cells.set 3 (.int .u32 (x.toNat : Int)) = Evt.cells { e with cause := x } := rfl
@[push_cast] theorem Evt.s4 (x : BitVec 32) : e.cells.set 4 (.int .u32 (x.toNat : Int)) = Evt.cells { e with epc := x } := rfl
@[push_cast] theorem Evt.s5 (x : BitVec 32) : e.cells.set 5 (.int .u32 (x.toNat : Int)) = Evt.cells { e with tval := x } := rfl
@[push_cast] theorem Evt.s_regs (r : Rg) : splice e.cells 6 (wds r.toList) = Evt.cells { e with regs := r } := by
  rw [splice_ne (by rw [wds_len]; simp), wds_len, Vector.length_toList]
  have := wds_rest e.regs.toList e.csrs.l
  rw [Vector.length_toList] at this
  show [AV.int .i64 e.kind, .int .u64 e.tick.toNat, .int .u32 e.value.toNat, .int .u32 e.cause.toNat, .int .u32 e.epc.toNat, .int .u32 e.tval.toNat] ++ wds r.toList ++ (wds e.regs.toList ++ wds e.csrs.l).drop 32 = _
  rw [this, List.append_assoc]
  rfl
@[push_cast] theorem Evt.s_csrs (k : Kp) : splice e.cells 38 (wds k.l) = Evt.cells { e with csrs := k } := by
  rw [splice_ne (by rw [wds_len]; simp [Kp.l]), wds_len]
  have h1 := wds_part e.regs.toList e.csrs.l
  have h2 := wds_rest e.regs.toList e.csrs.l
  rw [Vector.length_toList] at h1 h2
  show [AV.int .i64 e.kind, .int .u64 e.tick.toNat, .int .u32 e.value.toNat, .int .u32 e.cause.toNat, .int .u32 e.epc.toNat, .int .u32 e.tval.toNat] ++ (wds e.regs.toList ++ wds e.csrs.l).take 32 ++ wds k.l ++ (wds e.regs.toList ++ wds e.csrs.l).drop (32 + 7) = _
  rw [h1, ← List.drop_drop, h2]
  simp [Evt.cells, wds, Kp.l]
@[push_cast] theorem Past.pr (x y : AV) : partOf (x :: y :: p.cells) 3 (some 32) = some (.agg (wds p.regs.toList)) := by
  rw [partOf_some, if_pos (by simp only [List.length_cons, p.len]; omega)]
  have := wds_part p.regs.toList p.kept.l
  rw [Vector.length_toList] at this
  show some (AV.agg ((wds p.regs.toList ++ wds p.kept.l).take 32)) = _
  rw [this]
@[push_cast] theorem Past.pk (x y : AV) : partOf (x :: y :: p.cells) 35 (some 7) = some (.agg (wds p.kept.l)) := by
  rw [partOf_some, if_pos (by simp only [List.length_cons, p.len]; omega)]
  have := wds_rest p.regs.toList p.kept.l
  rw [Vector.length_toList] at this
  show some (AV.agg (((wds p.regs.toList ++ wds p.kept.l).drop 32).take 7)) = _
  rw [this, List.take_of_length_le (by rw [wds_len, Kp.l_len]; omega)]
@[push_cast] theorem Past.s0 (x : BitVec 64) : p.cells.set 0 (.int .u64 (x.toNat : Int)) = Past.cells ⟨x, p.regs, p.kept⟩ := rfl
end
end Go.Ab
