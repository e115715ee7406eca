/- Memory: the program's, in blocks of one's own. -/
import Derived.Test.YtglanajcilfpcaaDoorE1
set_option linter.unusedSimpArgs false
set_option linter.unusedVariables false
set_option maxRecDepth 10000
namespace Go.Ab
open Go.Proofs
variable {G : Glo} {h : Heap}
def bos (l : List Bool) : List AV := l.map .bool
def qws (l : List (BitVec 64)) : List AV := l.map fun x => .int .u64 (x.toNat : Int)
@[push_cast] theorem bos_len (l) : (bos l).length = l.length := by simp [bos]
@[push_cast] theorem qws_len (l) : (qws l).length = l.length := by simp [qws]
@[push_cast] theorem bos_get (l : List Bool) (i : Nat) : (bos l)[i]? = if i < l.length then some (AV.bool (l.getD i false)) else none := by
  simp only [bos, List.getElem?_map]
  split
  · rename_i h; simp [h]
  · rename_i h; simp [Nat.not_lt.1 h]
@[push_cast] theorem qws_get (l : List (BitVec 64)) (i : Nat) : (qws l)[i]? = if i < l.length then some (AV.int .u64 ((l.getD i 0#64).toNat : Int)) else none := by
  simp only [qws, List.getElem?_map]
  split
  · rename_i h; simp [h]
  · rename_i h; simp [Nat.not_lt.1 h]
@[push_cast] theorem bos_set (l : List Bool) (i : Nat) (b : Bool) : (bos l).set i (.bool b) = bos (l.set i b) := by simp [bos, List.map_set]
@[push_cast] theorem qws_set (l : List (BitVec 64)) (i : Nat) (x : BitVec 64) : (qws l).set i (.int .u64 (x.toNat : Int)) = qws (l.set i x) := by simp [qws, List.map_set]
/-- A memory: its bytes, and of each page whether it is watched, and its generation. -/
structure IRam where
  b : List (BitVec 8)
  w : List Bool
  g : List (BitVec 64)
/-- Where a memory lies: its box, and its rows. -/
structure Pl where
  p : Nat
  b : Nat
  w : Nat
  g : Nat
structure Pl.ok (l : Pl) : Prop where
  pb : l.p ≠ l.b
  pw : l.p ≠ l.w
  pg : l.p ≠ l.g
  bw : l.b ≠ l.w
  bg : l.b ≠ l.g
  wg : l.w ≠ l.g
def Pl.has (l : Pl) (c : Nat) : Prop := c = l.p ∨ c = l.b ∨ c = l.w ∨ c = l.g
def IRam.wf (M : IRam) : Prop := 64 ≤ M.b.length ∧ M.b.length ≤ 65536 ∧ M.b.length % 64 = 0 ∧ M.w.length = M.b.length / 64 ∧ M.g.length = M.b.length / 64
structure RamAt (H : Heap) (l : Pl) (M : IRam) : Prop where
  ok : l.ok
  wf : M.wf
  hp : H l.p = some ⟨[.sl l.b 0 M.b.length M.b.length, .sl l.w 0 M.w.length M.w.length, .sl l.g 0 M.g.length M.g.length], 0⟩
  hb : H l.b = some ⟨bys M.b, 0⟩
  hw : H l.w = some ⟨bos M.w, 0⟩
  hg : H l.g = some ⟨qws M.g, 0⟩
theorem RamAt.upd {H : Heap} {l : Pl} {M : IRam} (hr : RamAt H l M) {c : Nat} {X : Blk} (hc : ¬ l.has c) : RamAt (Ab.upd H c X) l M := by
  simp only [Pl.has, not_or] at hc
  exact ⟨hr.ok, hr.wf, by rw [upd_ne (Ne.symm hc.1)]; exact hr.hp, by rw [upd_ne (Ne.symm hc.2.1)]; exact hr.hb, by rw [upd_ne (Ne.symm hc.2.2.1)]; exact hr.hw, by rw [upd_ne (Ne.symm hc.2.2.2)]; exact hr.hg⟩
theorem RamAt.not {H : Heap} {l : Pl} {M : IRam} (hr : RamAt H l M) {c : Nat} (hc : H c = none) : ¬ l.has c := by
  rintro (rfl | rfl | rfl | rfl)
  · rw [hr.hp] at hc; cases hc
  · rw [hr.hb] at hc; cases hc
  · rw [hr.hw] at hc; cases hc
  · rw [hr.hg] at hc; cases hc
/-- Are addresses there? -/
def hasN (len : Nat) (addr : BitVec 32) (n : Int) : Bool := decide (1 ≤ n) && decide (n ≤ len) && decide (2147483648 ≤ addr.toNat) && decide ((addr.toNat : Int) - 2147483648 ≤ len - n)
def askedN (len : Nat) (addr : BitVec 32) (n : Int) : Int := if ¬ (n = 1 ∨ n = 2 ∨ n = 4) then 2 else if (addr.toNat : Int) % n ≠ 0 then 5 else if hasN len addr n then 0 else 6
theorem sub_base (addr : BitVec 32) (ha : 2147483648 ≤ addr.toNat) : (addr - 2147483648#32).toNat = addr.toNat - 2147483648 := by
  have := addr.isLt
  rw [BitVec.toNat_sub]; simp; omega
section
variable {l : Pl} {M : IRam}
theorem Has_spec (hr : RamAt h l M) (addr : BitVec 32) (n : Int) (hn : n ≤ 9223372036854775807) (hn0 : -9223372036854775808 ≤ n) : Spec Tryd.prog G 44 [.ptr l.p 0, .int .u32 addr.toNat, .int .i64 n] h (Is (.bool (hasN M.b.length addr n)) h) := by
  have hp := hr.hp
  have hw := hr.wf
  unfold IRam.wf at hw
  have hN : hasN M.b.length addr n = (decide (1 ≤ n) && decide (n ≤ M.b.length) && decide (2147483648 ≤ addr.toNat) && decide ((addr.toNat : Int) - 2147483648 ≤ M.b.length - n)) := rfl
  generalize hasN M.b.length addr n = N at hN ⊢
  refine Spec.is C44ok rfl ?_
  simp only [push_cast, simprocAttr, hp]
  refine ⟨fun q => ?_, fun q => ?_⟩
  · rw [hN]; (first | rfl | (congr 1; done) | (congr 1; rw [Bool.eq_iff_iff]; simp only [Bool.and_eq_true, Bool.or_eq_true, Bool.not_eq_true', decide_eq_true_eq, decide_eq_false_iff_not, Bool.false_eq_true, true_and, and_true]; first | omega | grind))
  · rw [sub_base addr (by omega), wrap_i64 (by omega) (by omega), hN]; (first | rfl | (congr 1; done) | (congr 1; rw [Bool.eq_iff_iff]; simp only [Bool.and_eq_true, Bool.or_eq_true, Bool.not_eq_true', decide_eq_true_eq, decide_eq_false_iff_not, Bool.false_eq_true, true_and, and_true]; first | omega | grind))
theorem Has_nil (addr : BitVec 32) (n : Int) : Spec Tryd.prog G 44 [.nilp, .int .u32 addr.toNat, .int .i64 n] h (Is (.bool false) h) := by
  refine Spec.is C44ok rfl ?_
  simp only [push_cast, simprocAttr]
theorem tmod_124 (a : BitVec 32) (n : Int) (hn : n = 1 ∨ n = 2 ∨ n = 4) : (a.toNat : Int).tmod ((BitVec.ofInt 32 n).toNat : Int) = (a.toNat : Int) % n ∧ (((BitVec.ofInt 32 n).toNat : Int) = 0) = False := by
  rcases hn with rfl | rfl | rfl
  · exact ⟨by rw [show ((BitVec.ofInt 32 1).toNat : Int) = 1 from rfl, Int.tmod_eq_emod_of_nonneg (by omega)], by simp⟩
  · exact ⟨by rw [show ((BitVec.ofInt 32 2).toNat : Int) = 2 from rfl, Int.tmod_eq_emod_of_nonneg (by omega)], by simp⟩
  · exact ⟨by rw [show ((BitVec.ofInt 32 4).toNat : Int) = 4 from rfl, Int.tmod_eq_emod_of_nonneg (by omega)], by simp⟩
theorem asked_spec (hr : RamAt h l M) (addr : BitVec 32) (n : Int) : Spec Tryd.prog G 101 [.ptr l.p 0, .int .u32 addr.toNat, .int .i64 n] h (Is (.int .i64 (askedN M.b.length addr n)) h) := by
  by_cases hn : n = 1 ∨ n = 2 ∨ n = 4
  · obtain ⟨t1, t2⟩ := tmod_124 addr n hn
    have hN : askedN M.b.length addr n = if (addr.toNat : Int) % n ≠ 0 then 5 else if hasN M.b.length addr n then 0 else 6 := by rw [askedN, if_neg (fun q => q hn)]
    have e0 : (((n != 1) && (n != 2)) && (n != 4)) = false := by rcases hn with rfl | rfl | rfl <;> rfl
    rw [hN]
    refine Spec.is C101ok rfl ?_
    simp only [push_cast, simprocAttr, t1, t2, e0]
    by_cases hm : (addr.toNat : Int) % n = 0
    · simp only [push_cast, simprocAttr, t1, t2, e0, hm]
      refine (Has_spec hr addr n (by omega) (by omega)).to ?_
      cases hH : hasN M.b.length addr n
      · simp only [push_cast, simprocAttr]
      · simp only [push_cast, simprocAttr]
    · simp only [push_cast, simprocAttr, t1, t2, e0, hm]
  · have hN : askedN M.b.length addr n = 2 := by rw [askedN, if_pos hn]
    have e0 : (((n != 1) && (n != 2)) && (n != 4)) = true := by simp; omega
    rw [hN]
    refine Spec.is C101ok rfl ?_
    simp only [push_cast, simprocAttr, e0]
theorem asked_nil (addr : BitVec 32) (n : Int) : Spec Tryd.prog G 101 [.nilp, .int .u32 addr.toNat, .int .i64 n] h (Is (.int .i64 2) h) := by
  refine Spec.is C101ok rfl ?_
  simp only [push_cast, simprocAttr]
theorem at_spec (hr : RamAt h l M) (addr : BitVec 32) (n : Nat) (hh : hasN M.b.length addr n = true) : Spec Tryd.prog G 45 [.ptr l.p 0, .int .u32 addr.toNat, .int .i64 n] h (Is (.sl l.b (addr.toNat - 2147483648) n n) h) := by
  have hp := hr.hp
  have hw := hr.wf
  unfold IRam.wf at hw
  simp only [hasN, Bool.and_eq_true, decide_eq_true_eq] at hh
  have e1 := sub_base addr (by omega)
  obtain ⟨k, hk⟩ : ∃ k, addr.toNat - 2147483648 = k := ⟨_, rfl⟩
  rw [hk] at e1 ⊢
  refine Spec.is C45ok rfl ?_
  simp (disch := omega) only [push_cast, simprocAttr, wrap_i64, toNat_ofInt64, Nat.min_eq_left, Int.toNat_of_nonneg, hp, e1]
  refine ⟨⟨⟨by omega, by omega⟩, ⟨by omega, by omega⟩, by omega⟩, ?_⟩
  rw [show ((k : Int) + n).toNat - k = n by omega]
theorem Arg1.part {h : Heap} {b o n cap : Nat} {x : Blk} {cells : List AV} (hb : h b = some x) (hc : ∀ (i : Nat) v, cells[i]? = some v → x.cells[o + i]? = some v) (h0 : n = 0 → cells = []) : Arg1 h (.sl b o n cap) (.ro cells n) :=
  fun w v hw hr => row_rep hw hb hc h0 hr (fun h => h) (fun _ _ h => h)
def IRam.load (M : IRam) (addr : BitVec 32) (n : Nat) : BitVec 32 := BitVec.ofNat 32 (leN ((M.b.drop (addr.toNat - 2147483648)).take n))
theorem Load_spec (hr : RamAt h l M) (addr : BitVec 32) (n : Int) : Spec Tryd.prog G 70 [.ptr l.p 0, .int .u32 addr.toNat, .int .i64 n] h
    (Is (.tup [.int .u32 (if askedN M.b.length addr n = 0 then M.load addr n.toNat else 0#32).toNat, .int .i64 (askedN M.b.length addr n)]) h) := by
  refine Spec.is C70ok rfl ?_
  simp only [push_cast, simprocAttr]
  refine (asked_spec hr addr n).to ?_
  by_cases hz : askedN M.b.length addr n = 0
  · have hz' : (askedN M.b.length addr n != 0) = false := by simp [hz]
    rw [if_pos hz]
    obtain ⟨N, rfl⟩ : ∃ N : Nat, n = N := ⟨n.toNat, by unfold askedN at hz; split at hz <;> omega⟩
    simp only [push_cast, simprocAttr, hz']
    refine (at_spec hr addr N (by unfold askedN at hz; split at hz; omega; split at hz; omega; split at hz; assumption; omega)).to ?_
    simp only [push_cast, simprocAttr, hz']
    have hH : hasN M.b.length addr N = true := by unfold askedN at hz; split at hz; omega; split at hz; omega; split at hz; assumption; omega
    have hn : N = 1 ∨ N = 2 ∨ N = 4 := by unfold askedN at hz; split at hz <;> omega
    simp only [hasN, Bool.and_eq_true, decide_eq_true_eq] at hH
    have hl : ((M.b.drop (addr.toNat - 2147483648)).take N).length = N := by rw [List.length_take, List.length_drop]; omega
    refine Spec.borrow (Number_spec ((M.b.drop (addr.toNat - 2147483648)).take N) (by rw [hl]; exact hn)) (.cons ?_ .nil) ?_
    · rw [byt, hl]
      refine Arg1.part hr.hb (fun i v hv => ?_) (fun e => by omega)
      rw [← bys_take, ← bys_drop, List.getElem?_take] at hv
      split at hv
      · rw [List.getElem?_drop] at hv; exact hv
      · cases hv
    · rintro _ _ ⟨rfl, rfl⟩
      refine ⟨rfl, ?_⟩
      simp only [push_cast, simprocAttr, hz]
      rfl
  · have hz' : (askedN M.b.length addr n != 0) = true := by simp [hz]
    rw [if_neg hz]
    simp only [push_cast, simprocAttr, hz']
def IRam.page (M : IRam) (addr : BitVec 32) : Int := if hasN M.b.length addr 1 then (((addr.toNat - 2147483648) / 64 : Nat) : Int) else -1
theorem bys_splice (b c : List (BitVec 8)) (k : Nat) (hk : k + c.length ≤ b.length) : splice (bys b) k (bys c) = bys (b.take k ++ c ++ b.drop (k + c.length)) := by
  apply List.ext_getElem?
  intro i
  rw [splice_get (by simpa [bys] using hk)]
  simp only [bys, List.getElem?_map, List.length_map, List.map_append]
  split
  · rename_i hi
    rw [List.getElem?_append_left (by simp; omega), List.getElem?_append_right (by simp; omega), List.getElem?_map]
    simp [Nat.min_eq_left (show k ≤ b.length by omega)]
  · rename_i hi
    by_cases hlt : i < k
    · rw [List.getElem?_append_left (by simp; omega), List.getElem?_append_left (by simp; omega), List.getElem?_map, List.getElem?_take, if_pos hlt]
    · rw [List.getElem?_append_right (by simp; omega), List.getElem?_map, List.getElem?_drop]
      simp only [List.length_append, List.length_map, List.length_take]
      rw [show k + c.length + (i - (min k b.length + c.length)) = i by omega]
/-- Behind a call that writes to a memory alone. -/
def RamTo (l : Pl) (M : IRam) (v : AV) (h : Heap) (r : AV) (h' : Heap) : Prop := r = v ∧ RamAt h' l M ∧ ∀ c, ¬ l.has c → h' c = h c
/-- Bytes laid at an address. -/
def IRam.put (M : IRam) (k : Nat) (c : List (BitVec 8)) : IRam := { M with b := M.b.take k ++ c ++ M.b.drop (k + c.length) }
theorem put_len (M : IRam) (k : Nat) (c : List (BitVec 8)) (hk : k + c.length ≤ M.b.length) : (M.put k c).b.length = M.b.length := by simp [IRam.put]; omega
theorem RamAt.put {H : Heap} (hr : RamAt H l M) (k : Nat) (c : List (BitVec 8)) (hk : k + c.length ≤ M.b.length) : RamAt (Ab.upd H l.b ⟨bys (M.put k c).b, 0⟩) l (M.put k c) := by
  have hl := put_len M k c hk
  have ho := hr.ok
  refine ⟨ho, ?_, ?_, upd_same _ _ _, ?_, ?_⟩
  · have := hr.wf; unfold IRam.wf at this ⊢; rw [hl]; exact this
  · rw [upd_ne ho.pb, hl]; exact hr.hp
  · rw [upd_ne (Ne.symm ho.bw)]; exact hr.hw
  · rw [upd_ne (Ne.symm ho.bg)]; exact hr.hg
theorem RamAt.setW {H : Heap} (hr : RamAt H l M) (p : Nat) (b : Bool) : RamAt (Ab.upd H l.w ⟨bos (M.w.set p b), 0⟩) l { M with w := M.w.set p b } := by
  have ho := hr.ok
  refine ⟨ho, ?_, ?_, ?_, upd_same _ _ _, ?_⟩
  · have := hr.wf; unfold IRam.wf at this ⊢; simpa using this
  · rw [upd_ne ho.pw]; simpa using hr.hp
  · rw [upd_ne ho.bw]; exact hr.hb
  · rw [upd_ne (Ne.symm ho.wg)]; exact hr.hg
theorem RamAt.setG {H : Heap} (hr : RamAt H l M) (p : Nat) (x : BitVec 64) : RamAt (Ab.upd H l.g ⟨qws (M.g.set p x), 0⟩) l { M with g := M.g.set p x } := by
  have ho := hr.ok
  refine ⟨ho, ?_, ?_, ?_, ?_, upd_same _ _ _⟩
  · have := hr.wf; unfold IRam.wf at this ⊢; simpa using this
  · rw [upd_ne ho.pg]; simpa using hr.hp
  · rw [upd_ne ho.bg]; exact hr.hb
  · rw [upd_ne ho.wg]; exact hr.hw
def fillE (len : Nat) (addr : BitVec 32) (n : Nat) : Int := if n = 0 then 0 else if hasN len addr n then 0 else 6
def IRam.fill (M : IRam) (addr : BitVec 32) (c : List (BitVec 8)) : IRam := if c.length ≠ 0 ∧ hasN M.b.length addr c.length = true then M.put (addr.toNat - 2147483648) c else M
theorem Fill_spec (hr : RamAt h l M) (addr : BitVec 32) (c : List (BitVec 8)) (hc : c.length ≤ 140737488355328) : Spec Tryd.prog G 26 [.ptr l.p 0, .int .u32 addr.toNat, byt c] h
    (RamTo l (M.fill addr c) (.int .i64 (fillE M.b.length addr c.length)) h) := by
  have hA : fillE M.b.length addr c.length = if c.length = 0 then 0 else if hasN M.b.length addr c.length then 0 else 6 := rfl
  have hF : M.fill addr c = if c.length ≠ 0 ∧ hasN M.b.length addr c.length = true then M.put (addr.toNat - 2147483648) c else M := rfl
  by_cases h0 : c.length = 0
  · have h0' : (c.length : Int) = 0 := by omega
    rw [if_pos h0] at hA
    rw [if_neg (fun q => q.1 h0)] at hF
    rw [hA, hF]
    refine Spec.walk C26ok rfl ?_
    simp only [push_cast, simprocAttr, h0']
    exact ⟨rfl, hr, fun _ _ => rfl⟩
  · have h0' : ((c.length : Int) = 0) = False := by simp only [eq_iff_iff, iff_false]; omega
    rw [if_neg h0] at hA
    have hS := Has_spec (G := G) hr addr c.length (by omega) (by omega)
    cases hH : hasN M.b.length addr c.length with
    | false =>
      rw [hH] at hA hF hS
      rw [if_neg (by simp)] at hA
      rw [if_neg (fun q => by cases q.2)] at hF
      rw [hA, hF]
      refine Spec.walk C26ok rfl ?_
      simp only [push_cast, simprocAttr, h0']
      refine hS.to ?_
      simp only [push_cast, simprocAttr]
      exact ⟨rfl, hr, fun _ _ => rfl⟩
    | true =>
      rw [hH] at hA hF hS
      rw [if_pos rfl] at hA
      rw [if_pos ⟨h0, rfl⟩] at hF
      rw [hA, hF]
      refine Spec.walk C26ok rfl ?_
      simp only [push_cast, simprocAttr, h0']
      refine hS.to ?_
      simp only [push_cast, simprocAttr]
      refine (at_spec hr addr c.length hH).to ?_
      simp only [hasN, Bool.and_eq_true, decide_eq_true_eq] at hH
      have hb := hr.hb
      simp only [push_cast, simprocAttr, hb]
      refine ⟨by omega, ?_⟩
      rw [List.take_of_length_le (by simp [bys]), bys_splice _ _ _ (by omega)]
      have := hr.put (addr.toNat - 2147483648) c (by omega)
      refine ⟨rfl, this, fun d hd => ?_⟩
      rw [upd_ne (fun e => hd (.inr (.inl e)))]
def IRam.store (M : IRam) (addr : BitVec 32) (n : Nat) (w : BitVec 32) : IRam × Bool :=
  let k := addr.toNat - 2147483648
  let N := M.put k (leB w n)
  if M.w.getD (k / 64) false then ({ N with w := N.w.set (k / 64) false, g := N.g.set (k / 64) (N.g.getD (k / 64) 0#64 + 1#64) }, true) else (N, false)
end
end Go.Ab
