/- The statement ApplyNilsCardSaid: its row, from the contract of its function; its card, by the given tie. -/
import Derived.Test.YtephiagmompfjaaGreatDoorPN4
import Derived.ProofKit
import Derived.OpenShut
import Derived.ShutString
import Derived.ChangeOld
import Derived.Below
import Derived.Test.YtephiagmompfjaaGreatDoorRows
import Derived.Lib.LaidTab
import Derived.MakeChecks
import Derived.LaidMore
import Derived.Test.YtephiagmompfjaaGreatDoorTie
import Derived.Test.YtephiagmompfjaaGreatDoorCards
import Derived.SevenTiedAt
import Derived.Stop.Joined
import Derived.WalkKit
section
/- All that a machine has: the program's. -/
set_option linter.unusedSimpArgs false
set_option linter.unusedVariables false
set_option maxRecDepth 10000
namespace Go.Ab
open Go.Proofs
variable {G : Glo} {h : Heap}
section
variable {H : Heap} {l : Plc} {c : ICpu} {M : IRam}
theorem RowAt.at {sz n : Nat} {H : Heap} {v : AV} {cells : List AV} {b : Nat} (hr : RowAt sz H v cells n (some b)) : ∃ x, H b = some x := by
  obtain ⟨pre, cap, sp, _, h2, _⟩ := hr
  exact ⟨_, h2⟩
theorem MachAt.at (hm : MachAt H l c M) {d : Nat} (hd : l.has d) : ∃ x, H d = some x := by
  rcases (Plc.nd hm.nd).1 d hd with rfl | rfl | rfl | rfl | rfl | hd | hd | hd
  · obtain ⟨v, h, _⟩ := hm.hc; exact ⟨_, h⟩
  · exact ⟨_, hm.hb⟩
  · obtain ⟨v, h, _⟩ := hm.hn; exact ⟨_, h⟩
  · obtain ⟨b, f, n, h, _⟩ := hm.hf; exact ⟨_, h⟩
  · exact ⟨_, hm.ht⟩
  · rcases hd with rfl | rfl | rfl | rfl
    · exact ⟨_, hm.hr.hp⟩
    · exact ⟨_, hm.hr.hb⟩
    · exact ⟨_, hm.hr.hw⟩
    · exact ⟨_, hm.hr.hg⟩
  · obtain ⟨v, _, h⟩ := hm.hn; rw [hd] at h; exact h.at
  · obtain ⟨v, _, h⟩ := hm.hc; rw [hd] at h; exact h.at
theorem MachAt.sub {H' : Heap} (hm : MachAt H l c M) (hs : Sub H H') : MachAt H' l c M := hm.same fun d hd => by
  obtain ⟨x, hx⟩ := hm.at hd
  rw [hx, hs d x hx]
theorem MachAt.upd {b : Nat} {X : Blk} (hm : MachAt H l c M) (hb : H b = none) : MachAt (Ab.upd H b X) l c M := hm.sub ((Sub.refl H).alloc hb)
section
variable (x y : AV) (r : Rg) (T : List AV)
theorem rs42 : (rec32 x r T).set 42 y = rec32 x r (T.set 9 y) := r32_set x y r T 9
theorem rs43 : (rec32 x r T).set 43 y = rec32 x r (T.set 10 y) := r32_set x y r T 10
theorem rs44 : (rec32 x r T).set 44 y = rec32 x r (T.set 11 y) := r32_set x y r T 11
theorem rs45 : (rec32 x r T).set 45 y = rec32 x r (T.set 12 y) := r32_set x y r T 12
theorem rs46 : (rec32 x r T).set 46 y = rec32 x r (T.set 13 y) := r32_set x y r T 13
theorem rs47 : (rec32 x r T).set 47 y = rec32 x r (T.set 14 y) := r32_set x y r T 14
theorem rs48 : (rec32 x r T).set 48 y = rec32 x r (T.set 15 y) := r32_set x y r T 15
theorem rs52 : (rec32 x r T).set 52 y = rec32 x r (T.set 19 y) := r32_set x y r T 19
theorem rs53 : (rec32 x r T).set 53 y = rec32 x r (T.set 20 y) := r32_set x y r T 20
theorem rs54 : (rec32 x r T).set 54 y = rec32 x r (T.set 21 y) := r32_set x y r T 21
theorem rsp49 (a b d : AV) : splice (rec32 x r T) 49 [a, b, d] = rec32 x r (splice T 16 [a, b, d]) := r32_sp x r T 16 [a, b, d] (by simp)
theorem rall55 (h : T.length = 22) : partOf (rec32 x r T) 0 (some 55) = some (.agg (rec32 x r T)) := r32_all x r T 55 (by omega)
theorem rspl (r' : Rg) : splice (rec32 x r T) 1 (wds r'.toList) = rec32 x r' T := by rw [r32_spr _ _ _ _ (by simp), rgOf_of]
theorem rzero : wds Rg.zero.toList = [.int .u32 0, .int .u32 0, .int .u32 0, .int .u32 0, .int .u32 0, .int .u32 0, .int .u32 0, .int .u32 0, .int .u32 0, .int .u32 0, .int .u32 0, .int .u32 0, .int .u32 0, .int .u32 0, .int .u32 0, .int .u32 0, .int .u32 0, .int .u32 0, .int .u32 0, .int .u32 0, .int .u32 0, .int .u32 0, .int .u32 0, .int .u32 0, .int .u32 0, .int .u32 0, .int .u32 0, .int .u32 0, .int .u32 0, .int .u32 0, .int .u32 0, .int .u32 0] := rfl
theorem rspl0 : splice (x :: [.int .u32 0, .int .u32 0, .int .u32 0, .int .u32 0, .int .u32 0, .int .u32 0, .int .u32 0, .int .u32 0, .int .u32 0, .int .u32 0, .int .u32 0, .int .u32 0, .int .u32 0, .int .u32 0, .int .u32 0, .int .u32 0, .int .u32 0, .int .u32 0, .int .u32 0, .int .u32 0, .int .u32 0, .int .u32 0, .int .u32 0, .int .u32 0, .int .u32 0, .int .u32 0, .int .u32 0, .int .u32 0, .int .u32 0, .int .u32 0, .int .u32 0, .int .u32 0, .int .u32 0, .int .u32 0, .int .u32 0, .int .u32 0, .int .u32 0, .int .u32 0, .int .u32 0, .int .u64 0, .int .u64 0, .int .u64 0, .int .u64 0, .nils, .nils, .nils, .bool false, .int .i64 0, .int .u64 0, .int .u64 0, .bool false, .bool false, .int .u32 0, .nils]) 1 (wds r.toList) = rec32 x r [.int .u32 0, .int .u32 0, .int .u32 0, .int .u32 0, .int .u32 0, .int .u32 0, .int .u32 0, .int .u64 0, .int .u64 0, .int .u64 0, .int .u64 0, .nils, .nils, .nils, .bool false, .int .i64 0, .int .u64 0, .int .u64 0, .bool false, .bool false, .int .u32 0, .nils] := rspl x Rg.zero [.int .u32 0, .int .u32 0, .int .u32 0, .int .u32 0, .int .u32 0, .int .u32 0, .int .u32 0, .int .u64 0, .int .u64 0, .int .u64 0, .int .u64 0, .nils, .nils, .nils, .bool false, .int .i64 0, .int .u64 0, .int .u64 0, .bool false, .bool false, .int .u32 0, .nils] r
theorem rsp33 (c : ICpu) : splice (rec32 x r [.int .u32 0, .int .u32 0, .int .u32 0, .int .u32 0, .int .u32 0, .int .u32 0, .int .u32 0, .int .u64 0, .int .u64 0, .int .u64 0, .int .u64 0, .nils, .nils, .nils, .bool false, .int .i64 0, .int .u64 0, .int .u64 0, .bool false, .bool false, .int .u32 0, .nils]) 33 c.f.cells = rec32 x r ([.int .u32 (c.f.k.st.toNat : Int), .int .u32 (c.f.k.ie.toNat : Int), .int .u32 (c.f.k.tv.toNat : Int), .int .u32 (c.f.k.sc.toNat : Int), .int .u32 (c.f.k.ep.toNat : Int), .int .u32 (c.f.k.ca.toNat : Int), .int .u32 (c.f.k.tl.toNat : Int), .int .u64 (c.f.cyc.toNat : Int), .int .u64 (c.f.ins.toNat : Int)] ++ [.int .u64 0, .int .u64 0, .nils, .nils, .nils, .bool false, .int .i64 0, .int .u64 0, .int .u64 0, .bool false, .bool false, .int .u32 0, .nils]) := r32_sp x r [.int .u32 0, .int .u32 0, .int .u32 0, .int .u32 0, .int .u32 0, .int .u32 0, .int .u32 0, .int .u64 0, .int .u64 0, .int .u64 0, .int .u64 0, .nils, .nils, .nils, .bool false, .int .i64 0, .int .u64 0, .int .u64 0, .bool false, .bool false, .int .u32 0, .nils] 0 c.f.cells (by simp [IFile.cells, Kp.l])
end
/-- A state's cells. -/
def ICpu.ts (c : ICpu) (out ev : AV) : List AV := [.int .u32 (c.f.k.st.toNat : Int), .int .u32 (c.f.k.ie.toNat : Int), .int .u32 (c.f.k.tv.toNat : Int), .int .u32 (c.f.k.sc.toNat : Int), .int .u32 (c.f.k.ep.toNat : Int), .int .u32 (c.f.k.ca.toNat : Int), .int .u32 (c.f.k.tl.toNat : Int),
  .int .u64 (c.f.cyc.toNat : Int), .int .u64 (c.f.ins.toNat : Int), .int .u64 (c.tick.toNat : Int), .int .u64 (c.ret.toNat : Int), byt c.bus.b, byt c.bus.c.rx, out, .bool c.bus.c.over, .int .i64 (c.bus.c.came : Int), .int .u64 (c.bus.t.off.toNat : Int), .int .u64 (c.bus.t.mark.toNat : Int), .bool c.bus.t.soft, .bool c.bus.off, .int .u32 (c.bus.code.toNat : Int), ev]
def stL (c : ICpu) (out ev : AV) : List AV := rec32 (.int .u32 (c.pc.toNat : Int)) c.regs (c.ts out ev)
def stC (c : ICpu) : List AV := stL c (byt c.bus.c.out) (evts c.ev)
end
end Go.Ab
end
section
/- The document's machine of a state; are two the same? -/
set_option linter.unusedSimpArgs false
set_option linter.unusedVariables false
set_option maxRecDepth 10000
namespace Go.Ab
open Go.Proofs
variable {G : Glo} {h : Heap}
/-- Without arrivals. -/
def ICpu.bare (c : ICpu) : ICpu := { c with bus := { c.bus with c := { c.bus.c with l := [] } } }
section
variable (c : ICpu)
theorem stC_t (k : Nat) : (stC c)[33 + k]? = (c.ts (byt c.bus.c.out) (evts c.ev))[k]? := r32_t _ _ _ k
@[push_cast] theorem st_0 : (stC c)[0]? = some (.int .u32 (c.pc.toNat : Int)) := rfl
@[push_cast] theorem st_40 : (stC c)[40]? = some (.int .u64 (c.f.cyc.toNat : Int)) := stC_t c 7
@[push_cast] theorem st_41 : (stC c)[41]? = some (.int .u64 (c.f.ins.toNat : Int)) := stC_t c 8
@[push_cast] theorem st_42 : (stC c)[42]? = some (.int .u64 (c.tick.toNat : Int)) := stC_t c 9
@[push_cast] theorem st_43 : (stC c)[43]? = some (.int .u64 (c.ret.toNat : Int)) := stC_t c 10
@[push_cast] theorem st_44 : (stC c)[44]? = some (byt c.bus.b) := stC_t c 11
@[push_cast] theorem st_45 : (stC c)[45]? = some (byt c.bus.c.rx) := stC_t c 12
@[push_cast] theorem st_46 : (stC c)[46]? = some (byt c.bus.c.out) := stC_t c 13
@[push_cast] theorem st_47 : (stC c)[47]? = some (.bool c.bus.c.over) := stC_t c 14
@[push_cast] theorem st_48 : (stC c)[48]? = some (.int .i64 (c.bus.c.came : Int)) := stC_t c 15
@[push_cast] theorem st_49 : (stC c)[49]? = some (.int .u64 (c.bus.t.off.toNat : Int)) := stC_t c 16
@[push_cast] theorem st_50 : (stC c)[50]? = some (.int .u64 (c.bus.t.mark.toNat : Int)) := stC_t c 17
@[push_cast] theorem st_51 : (stC c)[51]? = some (.bool c.bus.t.soft) := stC_t c 18
@[push_cast] theorem st_52 : (stC c)[52]? = some (.bool c.bus.off) := stC_t c 19
@[push_cast] theorem st_53 : (stC c)[53]? = some (.int .u32 (c.bus.code.toNat : Int)) := stC_t c 20
@[push_cast] theorem st_54 : (stC c)[54]? = some (evts c.ev) := stC_t c 21
@[push_cast] theorem st_len : (stC c).length = 55 := r32_len _ _ _
@[push_cast] theorem st_all : partOf (stC c) 0 (some 55) = some (.agg (stC c)) := partOf_all (st_len c)
@[push_cast] theorem st_regs : partOf (stC c) 1 (some 32) = some (.agg (wds c.regs.toList)) := r32_regs _ _ _
@[push_cast] theorem st_file : partOf (stC c) 33 (some 9) = some (.agg c.f.cells) := r32_part _ _ _ 0 9 (by simp [ICpu.ts])
@[push_cast] theorem st_kept : partOf (stC c) 33 (some 7) = some (.agg (wds c.f.k.l)) := r32_part _ _ _ 0 7 (by simp [ICpu.ts])
@[push_cast] theorem st_tim : partOf (stC c) 49 (some 3) = some (.agg c.bus.t.cells) := r32_part _ _ _ 16 3 (by simp [ICpu.ts])
end
section
variable (x y : AV) (r : Rg) (T : List AV)
theorem rs55 : (rec32 x r T).set 55 y = rec32 x r (T.set 22 y) := r32_set x y r T 22
theorem rall56 (h : T.length = 23) : partOf (rec32 x r T) 0 (some 56) = some (.agg (rec32 x r T)) := r32_all x r T 56 (by omega)
theorem rspl0' : splice (x :: [.int .u32 0, .int .u32 0, .int .u32 0, .int .u32 0, .int .u32 0, .int .u32 0, .int .u32 0, .int .u32 0, .int .u32 0, .int .u32 0, .int .u32 0, .int .u32 0, .int .u32 0, .int .u32 0, .int .u32 0, .int .u32 0, .int .u32 0, .int .u32 0, .int .u32 0, .int .u32 0, .int .u32 0, .int .u32 0, .int .u32 0, .int .u32 0, .int .u32 0, .int .u32 0, .int .u32 0, .int .u32 0, .int .u32 0, .int .u32 0, .int .u32 0, .int .u32 0, .int .u32 0, .int .u32 0, .int .u32 0, .int .u32 0, .int .u32 0, .int .u32 0, .int .u32 0, .int .u64 0, .int .u64 0, .int .u64 0, .int .u64 0, .nils, .nils, .int .i64 0, .nils, .bool false, .nils, .int .u64 0, .int .u64 0, .bool false, .bool false, .int .u32 0, .nils]) 1 (wds r.toList) = rec32 x r [.int .u32 0, .int .u32 0, .int .u32 0, .int .u32 0, .int .u32 0, .int .u32 0, .int .u32 0, .int .u64 0, .int .u64 0, .int .u64 0, .int .u64 0, .nils, .nils, .int .i64 0, .nils, .bool false, .nils, .int .u64 0, .int .u64 0, .bool false, .bool false, .int .u32 0, .nils] := rspl x Rg.zero [.int .u32 0, .int .u32 0, .int .u32 0, .int .u32 0, .int .u32 0, .int .u32 0, .int .u32 0, .int .u64 0, .int .u64 0, .int .u64 0, .int .u64 0, .nils, .nils, .int .i64 0, .nils, .bool false, .nils, .int .u64 0, .int .u64 0, .bool false, .bool false, .int .u32 0, .nils] r
theorem rsp33' (a0 a1 a2 a3 a4 a5 a6 a7 a8 : AV) : splice (rec32 x r T) 33 [a0, a1, a2, a3, a4, a5, a6, a7, a8] = rec32 x r (splice T 0 [a0, a1, a2, a3, a4, a5, a6, a7, a8]) := r32_sp x r T 0 _ (by simp)
theorem rsp44 (a0 a1 a2 a3 a4 a5 a6 a7 a8 a9 b : AV) : splice (rec32 x r T) 44 [a0, a1, a2, a3, a4, a5, a6, a7, a8, a9, b] = rec32 x r (splice T 11 [a0, a1, a2, a3, a4, a5, a6, a7, a8, a9, b]) := r32_sp x r T 11 _ (by simp)
end
theorem cellsEq_w (l : List (BitVec 32)) : cellsEq (List.replicate l.length .i) (wds l) (wds l) = some true := by
  induction l with
  | nil => rfl
  | cons x r ih =>
    show cellsEq (.i :: List.replicate r.length .i) (.int .u32 (x.toNat : Int) :: wds r) (.int .u32 (x.toNat : Int) :: wds r) = some true
    rw [cellsEq, if_pos rfl, ih]
    simp
theorem eqself_r (r : Rg) : aeq true [.i, .i, .i, .i, .i, .i, .i, .i, .i, .i, .i, .i, .i, .i, .i, .i, .i, .i, .i, .i, .i, .i, .i, .i, .i, .i, .i, .i, .i, .i, .i, .i] (.agg (wds r.toList)) (.agg (wds r.toList)) = some (.bool false) := by
  have hl : r.toList.length = 32 := by simp
  have := cellsEq_w r.toList
  rw [hl] at this
  show (cellsEq (List.replicate 32 .i) _ _).map _ = _
  rw [this]; rfl
@[push_cast] theorem cpu_con (c : ICpu) : partOf c.cells 45 (some 5) = some (.agg c.bus.c.cells) := r32_part _ _ c.tl 12 5 (by simp [ICpu.tl])
theorem eqself_f (f : IFile) : aeq true [.i, .i, .i, .i, .i, .i, .i, .i, .i] (.agg f.cells) (.agg f.cells) = some (.bool false) := by
  simp [aeq, cellsEq, IFile.cells, kp_wds]
theorem eqself_t (t : ITim) : aeq true [.i, .i, .b] (.agg t.cells) (.agg t.cells) = some (.bool false) := by
  simp [aeq, cellsEq, ITim.cells]
end Go.Ab
end
section
/- Are two states the same? The program's answer. -/
set_option linter.unusedSimpArgs false
set_option linter.unusedVariables false
set_option maxRecDepth 10000
namespace Go.Ab
open Go.Proofs
variable {G : Glo} {h : Heap}
theorem cellsEq_wa (l : List (BitVec 32)) (ks : List CK) (T : List AV) : cellsEq (List.replicate l.length .i ++ ks) (wds l ++ T) (wds l ++ T) = cellsEq ks T T := by
  induction l with
  | nil => rfl
  | cons x r ih =>
    show cellsEq (.i :: (List.replicate r.length .i ++ ks)) (.int .u32 (x.toNat : Int) :: (wds r ++ T)) (.int .u32 (x.toNat : Int) :: (wds r ++ T)) = _
    rw [cellsEq, if_pos rfl, ih]
    simp
/-- A state's parts that are compared whole. -/
def plT (c : ICpu) : List AV := [.int .u32 (c.f.k.st.toNat : Int), .int .u32 (c.f.k.ie.toNat : Int), .int .u32 (c.f.k.tv.toNat : Int), .int .u32 (c.f.k.sc.toNat : Int), .int .u32 (c.f.k.ep.toNat : Int), .int .u32 (c.f.k.ca.toNat : Int), .int .u32 (c.f.k.tl.toNat : Int),
  .int .u64 (c.f.cyc.toNat : Int), .int .u64 (c.f.ins.toNat : Int), .int .u64 (c.tick.toNat : Int), .int .u64 (c.ret.toNat : Int), .bool c.bus.c.over, .bool c.bus.off, .int .i64 (c.bus.c.came : Int), .int .u64 (c.bus.t.off.toNat : Int), .int .u64 (c.bus.t.mark.toNat : Int), .bool c.bus.t.soft, .int .u32 (c.bus.code.toNat : Int)]
def plC (c : ICpu) : List AV := rec32 (.int .u32 (c.pc.toNat : Int)) c.regs (plT c)
theorem plC_self (c : ICpu) : aeq false [.i, .i, .i, .i, .i, .i, .i, .i, .i, .i, .i, .i, .i, .i, .i, .i, .i, .i, .i, .i, .i, .i, .i, .i, .i, .i, .i, .i, .i, .i, .i, .i, .i, .i, .i, .i, .i, .i, .i, .i, .i, .i, .i, .i, .b, .b, .i, .i, .i, .b, .i] (.agg (plC c)) (.agg (plC c)) = some (.bool true) := by
  have hl : c.regs.toList.length = 32 := by simp
  have := cellsEq_wa c.regs.toList [.i, .i, .i, .i, .i, .i, .i, .i, .i, .i, .i, .b, .b, .i, .i, .i, .b, .i] (plT c)
  rw [hl] at this
  have e2 : cellsEq [.i, .i, .i, .i, .i, .i, .i, .i, .i, .i, .i, .b, .b, .i, .i, .i, .b, .i] (plT c) (plT c) = some true := by simp [cellsEq, plT]
  rw [e2] at this
  have e3 : cellsEq [.i, .i, .i, .i, .i, .i, .i, .i, .i, .i, .i, .i, .i, .i, .i, .i, .i, .i, .i, .i, .i, .i, .i, .i, .i, .i, .i, .i, .i, .i, .i, .i, .i, .i, .i, .i, .i, .i, .i, .i, .i, .i, .i, .i, .b, .b, .i, .i, .i, .b, .i] (plC c) (plC c) = some true := by
    show cellsEq (.i :: (List.replicate 32 .i ++ [.i, .i, .i, .i, .i, .i, .i, .i, .i, .i, .i, .b, .b, .i, .i, .i, .b, .i])) (.int .u32 (c.pc.toNat : Int) :: (wds c.regs.toList ++ plT c)) (.int .u32 (c.pc.toNat : Int) :: (wds c.regs.toList ++ plT c)) = some true
    rw [cellsEq, if_pos rfl, this]
    simp
  show (cellsEq [.i, .i, .i, .i, .i, .i, .i, .i, .i, .i, .i, .i, .i, .i, .i, .i, .i, .i, .i, .i, .i, .i, .i, .i, .i, .i, .i, .i, .i, .i, .i, .i, .i, .i, .i, .i, .i, .i, .i, .i, .i, .i, .i, .i, .b, .b, .i, .i, .i, .b, .i] _ _).map _ = _
  rw [e3]; rfl
section
variable (x y : AV) (r : Rg) (T : List AV)
theorem rall51 (h : T.length = 18) : partOf (rec32 x r T) 0 (some 51) = some (.agg (rec32 x r T)) := r32_all x r T 51 (by omega)
theorem rspl0p : splice (x :: [.int .u32 0, .int .u32 0, .int .u32 0, .int .u32 0, .int .u32 0, .int .u32 0, .int .u32 0, .int .u32 0, .int .u32 0, .int .u32 0, .int .u32 0, .int .u32 0, .int .u32 0, .int .u32 0, .int .u32 0, .int .u32 0, .int .u32 0, .int .u32 0, .int .u32 0, .int .u32 0, .int .u32 0, .int .u32 0, .int .u32 0, .int .u32 0, .int .u32 0, .int .u32 0, .int .u32 0, .int .u32 0, .int .u32 0, .int .u32 0, .int .u32 0, .int .u32 0, .int .u32 0, .int .u32 0, .int .u32 0, .int .u32 0, .int .u32 0, .int .u32 0, .int .u32 0, .int .u64 0, .int .u64 0, .int .u64 0, .int .u64 0, .bool false, .bool false, .int .i64 0, .int .u64 0, .int .u64 0, .bool false, .int .u32 0]) 1 (wds r.toList) = rec32 x r [.int .u32 0, .int .u32 0, .int .u32 0, .int .u32 0, .int .u32 0, .int .u32 0, .int .u32 0, .int .u64 0, .int .u64 0, .int .u64 0, .int .u64 0, .bool false, .bool false, .int .i64 0, .int .u64 0, .int .u64 0, .bool false, .int .u32 0] := rspl x Rg.zero [.int .u32 0, .int .u32 0, .int .u32 0, .int .u32 0, .int .u32 0, .int .u32 0, .int .u32 0, .int .u64 0, .int .u64 0, .int .u64 0, .int .u64 0, .bool false, .bool false, .int .i64 0, .int .u64 0, .int .u64 0, .bool false, .int .u32 0] r
theorem rsp47 (a b d : AV) : splice (rec32 x r T) 47 [a, b, d] = rec32 x r (splice T 14 [a, b, d]) := r32_sp x r T 14 _ (by simp)
theorem rs50 : (rec32 x r T).set 50 y = rec32 x r (T.set 17 y) := r32_set x y r T 17
end
end Go.Ab
end
section
/- Time, calls, and who is heard: the document's. -/
set_option linter.unusedSimpArgs false
set_option linter.unusedVariables false
set_option maxRecDepth 10000
namespace Go.Ab
open Go.Proofs
variable {G : Glo} {h : Heap}
def bitN (w : BitVec 32) (n : Nat) : BitVec 32 := BitVec.ofNat 32 (w.toNat / 2 ^ n % 2)
theorem bitN_lt (w : BitVec 32) (n : Nat) : (bitN w n).toNat < 2 := by
  have := Nat.mod_lt (w.toNat / 2 ^ n) (y := 2) (by omega)
  rw [bitN, BitVec.toNat_ofNat, Nat.mod_eq_of_lt (by simp; omega)]
  exact this
theorem bit_sum {x y : BitVec 32} (hx : x.toNat < 2) (hy : y.toNat < 2) : ((x + y).toNat : Int) = (x.toNat : Int) + (y.toNat : Int) := by
  rw [BitVec.toNat_add, Nat.mod_eq_of_lt (by simp; omega)]; simp
def hitN (k : Kp) (calls : BitVec 32) (n : Nat) : Bool := decide ((bitN calls n).toNat + (bitN k.ie n).toNat = 2)
def heardN (k : Kp) (calls : BitVec 32) : Bool := decide ((bitN k.st 3).toNat ≠ 0) && (hitN k calls 11 || hitN k calls 3 || hitN k calls 7)
def heardW (k : Kp) (calls : BitVec 32) : Int := if (bitN k.st 3).toNat = 0 then 0 else if hitN k calls 11 then 2147483659 else if hitN k calls 3 then 2147483651 else if hitN k calls 7 then 2147483655 else 0
theorem ad11 : abin .add (.int .u32 2147483648) (.int .u32 11) = some (.int .u32 2147483659) := rfl
theorem ad3 : abin .add (.int .u32 2147483648) (.int .u32 3) = some (.int .u32 2147483651) := rfl
theorem ad7 : abin .add (.int .u32 2147483648) (.int .u32 7) = some (.int .u32 2147483655) := rfl
theorem ww11 : IntKind.u32.wrap 2147483659 = 2147483659 := by decide
theorem ww3 : IntKind.u32.wrap 2147483651 = 2147483651 := by decide
theorem ww7 : IntKind.u32.wrap 2147483655 = 2147483655 := by decide
end Go.Ab
end
section
/- For how long nobody is heard: the document's. -/
set_option linter.unusedSimpArgs false
set_option linter.unusedVariables false
set_option maxRecDepth 10000
namespace Go.Ab
open Go.Proofs
variable {G : Glo} {h : Heap}
/-- Has one come of those that are to come, till a tick? -/
def someA (c : ICpu) (tick : BitVec 64) (k : Nat) : Bool := (List.range k).any fun i => decide (c.bus.c.came ≤ i) && decide ((c.bus.c.l.getD i IArr.zero).tick.toNat ≤ tick.toNat)
theorem someA_step (c : ICpu) (tick : BitVec 64) (k : Nat) : someA c tick (k + 1) = (someA c tick k || (decide (c.bus.c.came ≤ k) && decide ((c.bus.c.l.getD k IArr.zero).tick.toNat ≤ tick.toNat))) := by
  rw [someA, List.range_succ, List.any_append]; simp [someA]
theorem someA_came (c : ICpu) (tick : BitVec 64) : someA c tick c.bus.c.came = false := by
  rw [someA, List.any_eq_false]
  intro i hi
  have := List.mem_range.1 hi
  simp; omega
def rxC (c : ICpu) (b : Bool) : ICpu := if b then { c with bus := { c.bus with c := { c.bus.c with rx := [1#8] } } } else c
theorem rxC_l (c : ICpu) (b : Bool) : (rxC c b).bus.c.l = c.bus.c.l := by cases b <;> rfl
theorem rxC_t (c : ICpu) (b : Bool) : (rxC c b).bus.t = c.bus.t := by cases b <;> rfl
theorem rxC_set (c : ICpu) (b : Bool) : (rxC c b).cells.set 47 (.ro [.int .u8 1] 1) = (rxC c true).cells := by
  have := cpu_s47 (rxC c b) [1#8]
  have e : (AV.ro (bys [1#8]) [1#8].length) = .ro [.int .u8 1] 1 := rfl
  rw [e] at this
  rw [this]
  cases b <;> rfl
/-- Who calls at a tick, if nothing is done till then. -/
def callsAt (c : ICpu) (tick : BitVec 64) : BitVec 32 := (rxC c (someA c tick c.bus.c.l.length)).bus.calls tick
/-- Is somebody heard at a tick? -/
def heardAt (c : ICpu) (d : Nat) : Bool := heardN c.f.k (callsAt c (c.tick + BitVec.ofNat 64 d))
end Go.Ab
end
section
/- The bus: its devices' places; what an access is of. -/
set_option linter.unusedSimpArgs false
set_option linter.unusedVariables false
set_option maxRecDepth 10000
namespace Go.Ab
open Go.Proofs
variable {G : Glo} {h : Heap}
def portL : List (BitVec 32 × BitVec 32) := [(1048576#32, 4#32), (268435456#32, 8#32), (33554432#32, 4#32), (33570816#32, 8#32), (33603576#32, 8#32)]
def portF (p : BitVec 32 × BitVec 32) : List AV := [.int .u32 (p.1.toNat : Int), .int .u32 (p.2.toNat : Int)]
def portC : List AV := portL.flatMap portF
/-- What is known of the table of devices, asz the program has it. -/
def GP (G : Glo) : Prop := G.g 0 = .cp portC 0
def inPort (a : BitVec 32) (k : Nat) : Bool := decide ((portL.getD k (0, 0)).1.toNat ≤ a.toNat) && decide (a.toNat - (portL.getD k (0, 0)).1.toNat < (portL.getD k (0, 0)).2.toNat)
def devN (a : BitVec 32) : Int := if inPort a 0 then 0 else if inPort a 1 then 1 else if inPort a 2 then 2 else if inPort a 3 then 3 else if inPort a 4 then 4 else -1
theorem dev_at (a : BitVec 32) (k : Nat) (hk : k < 5) (hp : inPort a k = true) (hn : ∀ i, i < k → inPort a i = false) : devN a = k := by
  rw [devN]
  rcases (show k = 0 ∨ k = 1 ∨ k = 2 ∨ k = 3 ∨ k = 4 by omega) with rfl | rfl | rfl | rfl | rfl
  · rw [hp]; rfl
  · rw [hn 0 (by omega), hp]; rfl
  · rw [hn 0 (by omega), hn 1 (by omega), hp]; rfl
  · rw [hn 0 (by omega), hn 1 (by omega), hn 2 (by omega), hp]; rfl
  · rw [hn 0 (by omega), hn 1 (by omega), hn 2 (by omega), hn 3 (by omega), hp]; rfl
theorem dev_no (a : BitVec 32) (hn : ∀ i, i < 5 → inPort a i = false) : devN a = -1 := by
  rw [devN, hn 0 (by omega), hn 1 (by omega), hn 2 (by omega), hn 3 (by omega), hn 4 (by omega)]; rfl
theorem port_p (k : Nat) : partOf portC (k * 2) (some 2) = if k < 5 then some (.agg (portF (portL.getD k (0, 0)))) else none := flat_partD portF 2 portL (0, 0) (fun _ => rfl) (by omega) k
theorem port_l (k : Nat) : (portL.getD k (0, 0)).1.toNat < 4294967296 := (portL.getD k (0, 0)).1.isLt
theorem device_spec (hG : GP G) (a : BitVec 32) : Spec Tryz.prog G 27 [.int .u32 a.toNat] h (Is (.int .i64 (devN a)) h) := by
  have hall : partOf portC 0 (some 10) = some (.agg portC) := partOf_all rfl
  have hs : ∀ p : BitVec 32 × BitVec 32, splice [.int .u32 0, .int .u32 0] 0 (portF p) = portF p := fun _ => rfl
  have p0 : ∀ p : BitVec 32 × BitVec 32, (portF p)[0]? = some (.int .u32 (p.1.toNat : Int)) := fun _ => rfl
  have p1 : ∀ p : BitVec 32 × BitVec 32, (portF p)[1]? = some (.int .u32 (p.2.toNat : Int)) := fun _ => rfl
  have pl : ∀ p : BitVec 32 × BitVec 32, (portF p).length = 2 := fun _ => rfl
  unfold GP at hG
  refine Spec.is C27ok rfl ?_
  simp only [push_cast, simprocAttr, hG, hall]
  refine lpc.rel [0, 3, 6, 7] (fun m ρ h' => ∃ k : Nat, m = 5 - k ∧ k ≤ 5 ∧ h = h' ∧ (∀ i, i < k → inPort a i = false) ∧ ρ = [(0, .int .u32 a.toNat), (3, .int .i64 (-1)), (6, .agg portC), (7, .int .i64 (k : Int))]) ⟨_, 0, rfl, by omega, rfl, by intro i hi; omega, rfl⟩ ?_
  rintro m _ _ ⟨k, rfl, hk, rfl, hn, rfl⟩
  by_cases h5 : k < 5
  · have h5' : (k : Int) < 5 := by omega
    have hp := port_p k
    rw [if_pos h5] at hp
    have hlt := port_l k
    have hin : inPort a k = (decide ((portL.getD k (0, 0)).1.toNat ≤ a.toNat) && decide (a.toNat - (portL.getD k (0, 0)).1.toNat < (portL.getD k (0, 0)).2.toNat)) := rfl
    have hdv := fun hp : inPort a k = true => dev_at a k h5 hp hn
    generalize portL.getD k (0, 0) = p at *
    have alt := a.isLt
    simp (disch := omega) only [push_cast, simprocAttr, wrap_i64, toNat_ofInt64, Nat.min_eq_left, Int.toNat_of_nonneg, h5', hp]
    intro c5 hc5
    rw [era_none hc5]
    simp only [push_cast, simprocAttr, hs, p0, p1, pl]
    by_cases c1 : a.toNat < p.1.toNat
    · have c1' : (a.toNat : Int) < (p.1.toNat : Int) := by omega
      simp (disch := omega) only [push_cast, simprocAttr, wrap_i64, toNat_ofInt64, Nat.min_eq_left, Int.toNat_of_nonneg, c1', c1]
      rw [decide_eq_false (by omega), Bool.false_and] at hin
      refine ⟨_, _, by omega, .refl _, k + 1, rfl, by omega, rfl, fun i hi => ?_, rfl⟩
      by_cases e : i = k
      · rw [e]; exact hin
      · exact hn i (by omega)
    · have c1' : ¬ (a.toNat : Int) < (p.1.toNat : Int) := by omega
      rw [decide_eq_true (by omega), Bool.true_and] at hin
      have hw : (a - p.1).toNat = a.toNat - p.1.toNat := BitVec.toNat_sub_of_le (by simp only [BitVec.le_def]; omega)
      by_cases c2 : a.toNat - p.1.toNat < p.2.toNat
      · have c2' : ¬ ((a.toNat : Int) - (p.1.toNat : Int) ≥ (p.2.toNat : Int)) := by omega
        rw [decide_eq_true c2] at hin
        simp only [push_cast, simprocAttr, c1', c1, hw]
        exact ⟨fun q => absurd q (by omega), fun _ => by rw [hdv hin]⟩
      · have c2' : ((a.toNat : Int) - (p.1.toNat : Int) ≥ (p.2.toNat : Int)) := by omega
        rw [decide_eq_false c2] at hin
        simp (disch := omega) only [push_cast, simprocAttr, wrap_i64, toNat_ofInt64, Nat.min_eq_left, Int.toNat_of_nonneg, c1', c1, hw, c2']
        refine ⟨_, _, by omega, .refl _, k + 1, rfl, by omega, rfl, fun i hi => ?_, rfl⟩
        by_cases e : i = k
        · rw [e]; exact hin
        · exact hn i (by omega)
  · obtain rfl : k = 5 := by omega
    rw [dev_no a hn]
    simp only [push_cast, simprocAttr]
/-- What an access is of. -/
def classN (len : Nat) (a : BitVec 32) (n : Int) : Int := if n = 1 ∨ n = 2 ∨ n = 4 then (if a.toNat % n.toNat = 0 then (if hasN len a n then 1 else if n = 4 ∧ 0 ≤ devN a then 2 else 0) else 0) else 0
def askB (len : Nat) (a : BitVec 32) (n : Int) : Int := if n = 1 ∨ n = 2 ∨ n = 4 then (if a.toNat % n.toNat = 0 then (if classN len a n = 0 then 6 else 0) else 5) else 2
section
variable {H : Heap} {l : Plc} {c : ICpu} {M : IRam}
theorem bClass_spec (hG : GP G) (hm : MachAt H l c M) (a : BitVec 32) (n : Int) (hn : n = 1 ∨ n = 2 ∨ n = 4) : Spec Tryz.prog G 25 [.ptr l.bus 0, .int .u32 a.toNat, .int .i64 n] H (Is (.int .i64 (classN M.b.length a n)) H) := by
  have hb := hm.hb
  have hd := device_spec (G := G) (h := H) hG a
  have hh := Has_spec (G := G) hm.hr a n (by omega) (by omega)
  have hC : classN M.b.length a n = if n = 1 ∨ n = 2 ∨ n = 4 then (if a.toNat % n.toNat = 0 then (if hasN M.b.length a n then 1 else if n = 4 ∧ 0 ≤ devN a then 2 else 0) else 0) else 0 := rfl
  rw [if_pos hn] at hC
  generalize classN M.b.length a n = X at *
  generalize devN a = dv at *
  generalize hasN M.b.length a n = hv at *
  have alt := a.isLt
  obtain ⟨k, rfl⟩ : ∃ k : Nat, n = k := ⟨n.toNat, by omega⟩
  have hk : k = 1 ∨ k = 2 ∨ k = 4 := by omega
  rw [Int.toNat_natCast] at hC
  rcases hk with rfl | rfl | rfl
  all_goals
    refine Spec.is C25ok rfl ?_
    simp only [push_cast, simprocAttr, hb]
    have hm1 : ((a.toNat : Int)).tmod 1 = ((a.toNat % 1 : Nat) : Int) := rfl
    have hm2 : ((a.toNat : Int)).tmod 2 = ((a.toNat % 2 : Nat) : Int) := rfl
    have hm4 : ((a.toNat : Int)).tmod 4 = ((a.toNat % 4 : Nat) : Int) := rfl
    refine ⟨fun q => ?_, fun q => hh.to ?_⟩
    · rw [if_neg (by omega)] at hC
      rw [hC]
    · rw [if_pos (by omega)] at hC
      cases hv with
      | true => simp only [push_cast, simprocAttr, hC]
      | false =>
        first
        | (rw [if_neg (by simp), if_neg (by omega)] at hC; simp only [push_cast, simprocAttr, hC]; done)
        | (simp only [push_cast, simprocAttr]
           refine hd.to ?_
           by_cases h0 : 0 ≤ dv
           · have h0' : dv ≥ 0 := h0
             rw [if_neg (by simp), if_pos ⟨by omega, h0⟩] at hC
             simp only [push_cast, simprocAttr, h0', hC]
           · have h0' : ¬ (dv ≥ 0) := h0
             rw [if_neg (by simp), if_neg (by omega)] at hC
             simp only [push_cast, simprocAttr, h0', hC])
theorem bAsked_spec (hG : GP G) (hm : MachAt H l c M) (a : BitVec 32) (n : Int) (hn : n = 1 ∨ n = 2 ∨ n = 4) : Spec Tryz.prog G 24 [.ptr l.bus 0, .int .u32 a.toNat, .int .i64 n] H (Is (.int .i64 (askB M.b.length a n)) H) := by
  have hc := bClass_spec (G := G) hG hm a n hn
  have hC : askB M.b.length a n = if n = 1 ∨ n = 2 ∨ n = 4 then (if a.toNat % n.toNat = 0 then (if classN M.b.length a n = 0 then 6 else 0) else 5) else 2 := rfl
  rw [if_pos hn] at hC
  generalize askB M.b.length a n = X at *
  generalize classN M.b.length a n = cl at *
  obtain ⟨k, rfl⟩ : ∃ k : Nat, n = k := ⟨n.toNat, by omega⟩
  have hk : k = 1 ∨ k = 2 ∨ k = 4 := by omega
  rw [Int.toNat_natCast] at hC
  rcases hk with rfl | rfl | rfl
  all_goals
    refine Spec.is C24ok rfl ?_
    simp only [push_cast, simprocAttr]
    have hm1 : ((a.toNat : Int)).tmod 1 = ((a.toNat % 1 : Nat) : Int) := rfl
    have hm2 : ((a.toNat : Int)).tmod 2 = ((a.toNat % 2 : Nat) : Int) := rfl
    have hm4 : ((a.toNat : Int)).tmod 4 = ((a.toNat % 4 : Nat) : Int) := rfl
    refine ⟨fun q => ?_, fun q => hc.to ?_⟩
    · rw [if_neg (by omega)] at hC
      rw [hC]
    · rw [if_pos (by omega)] at hC
      by_cases h0 : cl = 0
      · rw [if_pos h0] at hC
        simp only [push_cast, simprocAttr, h0, hC]
      · rw [if_neg h0] at hC
        simp only [push_cast, simprocAttr, h0, hC]
/-- The power, put off. -/
theorem MachAt.setO (hm : MachAt H l c M) (w : BitVec 32) : MachAt (Ab.upd H l.bus ⟨[.ptr l.ram.p 0, .ptr l.con 0, .ptr l.tim 0, .bool true, .int .u32 (w.toNat : Int)], 0⟩) l { c with bus := { c.bus with off := true, code := w } } M := by
  obtain ⟨_, ⟨q1, _⟩, ⟨q2, _⟩, q3⟩ := Plc.nd hm.nd
  have hnd := hm.nd
  have hl : l.bus ≠ l.con ∧ l.bus ≠ l.fifo ∧ (∀ d, l.ob = some d → d ≠ l.bus) ∧ (∀ d, l.eb = some d → d ≠ l.bus) := by
    obtain ⟨p, bus, con, fifo, tim, ⟨r1, r2, r3, r4⟩, ob, eb⟩ := l
    simp only [Plc.l, List.nodup_cons, List.mem_cons, List.mem_append, List.cons_append, List.nil_append, List.not_mem_nil, or_false, not_or, Option.mem_toList, Option.toList] at hnd
    grind
  obtain ⟨n1, n2, n3, n4⟩ := hl
  have ne : ∀ X d, d ≠ l.bus → Ab.upd H l.bus X d = H d := fun X d hd => upd_ne hd
  refine ⟨hm.nd, ?_, upd_same _ _ _, ?_, ?_, ?_, ?_, hm.hm, hm.hl, hm.came⟩
  · obtain ⟨v1, h1, h2⟩ := hm.hc
    exact ⟨v1, by rw [ne _ _ q1]; exact h1, h2.same fun d hd => ne _ d (n4 d hd)⟩
  · obtain ⟨v1, h1, h2⟩ := hm.hn
    exact ⟨v1, by rw [ne _ _ (Ne.symm n1)]; exact h1, h2.same fun d hd => ne _ d (n3 d hd)⟩
  · obtain ⟨b, f, n, h1, h2⟩ := hm.hf
    exact ⟨b, f, n, by rw [ne _ _ (Ne.symm n2)]; exact h1, h2⟩
  · rw [ne _ _ q2]; exact hm.ht
  · exact hm.hr.same fun d hd => ne _ d (q3 d hd).1
/-- A word at the place of the power. -/
def OffTo (H : Heap) (l : Plc) (c : ICpu) (M : IRam) (w : BitVec 32) (r : AV) (H' : Heap) : Prop := r = .tup [.bool false, .int .i64 0] ∧ MachAt H' l { c with bus := { c.bus with off := true, code := w } } M ∧ ∀ d, d ≠ l.bus → H' d = H d
theorem has_off (len : Nat) (h : len ≤ 65536) : hasN len 1048576#32 4 = false := by
  have h : decide (2147483648 ≤ (1048576#32).toNat) = false := by decide
  rw [hasN, h, Bool.and_false, Bool.false_and]
theorem bStore_off (hG : GP G) (hm : MachAt H l c M) (w : BitVec 32) (t : BitVec 64) : Spec Tryz.prog G 11 [.ptr l.bus 0, .int .u32 1048576, .int .i64 4, .int .u32 w.toNat, .int .u64 t.toNat] H (OffTo H l c M w) := by
  have hdv : devN 1048576#32 = 0 := by decide
  have hcl : classN M.b.length 1048576#32 4 = 2 := by
    rw [classN, if_pos (by omega), if_pos (by decide), has_off _ hm.hr.wf.2.1, if_neg (by simp), if_pos ⟨rfl, by rw [hdv]; omega⟩]
  have hak : askB M.b.length 1048576#32 4 = 0 := by
    rw [askB, if_pos (by omega), if_pos (by decide), hcl]; rfl
  have h1 := bAsked_spec (G := G) hG hm 1048576#32 4 (by omega)
  have h2 := bClass_spec (G := G) hG hm 1048576#32 4 (by omega)
  have h3 := device_spec (G := G) (h := H) hG 1048576#32
  rw [hak] at h1
  rw [hcl] at h2
  rw [hdv] at h3
  have hb := hm.hb
  refine Spec.drop ?_
  refine Spec.walk C11ok rfl ?_
  simp only [push_cast, simprocAttr]
  refine h1.to ?_
  simp only [push_cast, simprocAttr]
  refine h2.to ?_
  simp only [push_cast, simprocAttr]
  refine h3.to ?_
  have q : ∀ X, upd H l.bus X l.bus = some X := fun X => upd_same _ _ _
  have uu : ∀ X Y, upd (upd H l.bus X) l.bus Y = upd H l.bus Y := fun X Y => upd_upd _ _ _ _
  simp only [push_cast, simprocAttr, hb, q, uu]
  exact ⟨_, .refl _, rfl, hm.setO w, fun d hd => upd_ne hd⟩
end
end Go.Ab
end
section
/- For how long nobody is heard: the same in both (the plain law). -/
set_option linter.unusedSimpArgs false
set_option linter.unusedVariables false
namespace Go.Ab
open Go.Proofs
theorem bitN_and (w : BitVec 32) (n : Nat) : (bitN w n).toNat = if w.getLsbD n then 1 else 0 := by
  have h1 := Nat.mod_lt (w.toNat / 2 ^ n) (y := 2) (by omega)
  rw [bitN, BitVec.toNat_ofNat, Nat.mod_eq_of_lt (by simp; omega)]
  rw [BitVec.getLsbD, Nat.testBit_eq_decide_div_mod_eq]
  by_cases h : w.toNat / 2 ^ n % 2 = 1
  · simp [h]
  · have : w.toNat / 2 ^ n % 2 = 0 := by omega
    simp [this]
theorem hit_eq (k : Kp) (calls : BitVec 32) (n : Nat) : hitN k calls n = (calls.getLsbD n && k.ie.getLsbD n) := by
  rw [hitN, bitN_and, bitN_and]
  cases calls.getLsbD n <;> cases k.ie.getLsbD n <;> rfl
/-- One bit of a word. -/
theorem bit_and (w : BitVec 32) (n : Nat) (hn : n < 32) : (w &&& BitVec.ofNat 32 (2 ^ n) = 0#32) ↔ w.getLsbD n = false := by
  have hb : ∀ i, i < 32 → (BitVec.ofNat 32 (2 ^ n)).getLsbD i = decide (n = i) := fun i hi => by
    rw [BitVec.getLsbD_ofNat, Nat.testBit_two_pow]; simp [hi]
  constructor
  · intro h
    have := congrArg (fun x : BitVec 32 => x.getLsbD n) h
    simp only [BitVec.getLsbD_and, hb n hn, decide_true, Bool.and_true] at this
    rw [this]; simp
  · intro h
    apply BitVec.eq_of_getLsbD_eq
    intro i hi
    rw [BitVec.getLsbD_and, hb i hi]
    by_cases h3 : n = i
    · subst h3; simp [h]
    · simp [h3]
theorem callsN_bits (s u r : Bool) : (callsN s u r).getLsbD 3 = s ∧ (callsN s u r).getLsbD 7 = u ∧ (callsN s u r).getLsbD 11 = r := by
  cases s <;> cases u <;> cases r <;> decide
theorem bv_or0 (x y : BitVec 32) : x ||| y = 0#32 ↔ x = 0#32 ∧ y = 0#32 := by
  constructor
  · intro h
    have hb : ∀ i : Nat, (x.getLsbD i || y.getLsbD i) = false := fun i => by
      have := congrArg (fun z : BitVec 32 => z.getLsbD i) h
      simpa using this
    refine ⟨BitVec.eq_of_getLsbD_eq fun i hi => ?_, BitVec.eq_of_getLsbD_eq fun i hi => ?_⟩
    · have := hb i; rw [Bool.or_eq_false_iff] at this; rw [this.1]; simp
    · have := hb i; rw [Bool.or_eq_false_iff] at this; rw [this.2]; simp
  · rintro ⟨rfl, rfl⟩; rfl
theorem wakes_eq (k : Kp) (calls : BitVec 32) : wakesN k calls = ((calls.getLsbD 11 && k.ie.getLsbD 11) || (calls.getLsbD 3 && k.ie.getLsbD 3) || (calls.getLsbD 7 && k.ie.getLsbD 7)) := by
  have e : (2184#32 : BitVec 32) = BitVec.ofNat 32 (2 ^ 11) ||| BitVec.ofNat 32 (2 ^ 3) ||| BitVec.ofNat 32 (2 ^ 7) := by decide
  rw [wakesN, e, Bool.eq_iff_iff, decide_eq_true_eq, BitVec.and_or_distrib_left, BitVec.and_or_distrib_left, ne_eq, bv_or0, bv_or0, bit_and _ _ (by omega), bit_and _ _ (by omega), bit_and _ _ (by omega), BitVec.getLsbD_and, BitVec.getLsbD_and, BitVec.getLsbD_and]
  cases calls.getLsbD 11 <;> cases calls.getLsbD 3 <;> cases calls.getLsbD 7 <;> cases k.ie.getLsbD 11 <;> cases k.ie.getLsbD 3 <;> cases k.ie.getLsbD 7 <;> decide
def readyAt (c : ICpu) (tick : BitVec 64) : Bool := decide (0 < c.bus.c.rx.length) || someA c tick c.bus.c.l.length
theorem callsAt_eq (c : ICpu) (tick : BitVec 64) : callsAt c tick = callsN c.bus.t.soft (c.bus.t.up tick) (readyAt c tick) := by
  rw [callsAt, readyAt]
  cases someA c tick c.bus.c.l.length
  · rw [Bool.or_false]; rfl
  · rw [Bool.or_true]; rfl
theorem heard_eq (c : ICpu) (d : Nat) : heardAt c d = (c.f.k.st.getLsbD 3 && ((readyAt c (c.tick + BitVec.ofNat 64 d) && c.f.k.ie.getLsbD 11) || (c.bus.t.soft && c.f.k.ie.getLsbD 3) || (c.bus.t.up (c.tick + BitVec.ofNat 64 d) && c.f.k.ie.getLsbD 7))) := by
  obtain ⟨b3, b7, b11⟩ := callsN_bits c.bus.t.soft (c.bus.t.up (c.tick + BitVec.ofNat 64 d)) (readyAt c (c.tick + BitVec.ofNat 64 d))
  rw [heardAt, heardN, callsAt_eq, hit_eq, hit_eq, hit_eq, b3, b7, b11, bitN_and]
  cases c.f.k.st.getLsbD 3 <;> simp
theorem wakes0_eq (c : ICpu) : wakesN c.f.k (c.bus.calls c.tick) = ((decide (0 < c.bus.c.rx.length) && c.f.k.ie.getLsbD 11) || (c.bus.t.soft && c.f.k.ie.getLsbD 3) || (c.bus.t.up c.tick && c.f.k.ie.getLsbD 7)) := by
  obtain ⟨b3, b7, b11⟩ := callsN_bits c.bus.t.soft (c.bus.t.up c.tick) (decide (0 < c.bus.c.rx.length))
  rw [wakes_eq]
  show (((callsN _ _ _).getLsbD 11 && _) || ((callsN _ _ _).getLsbD 3 && _) || ((callsN _ _ _).getLsbD 7 && _)) = _
  rw [b3, b7, b11]
/-- One of those to come is there if the first is. -/
theorem someA_eq (c : ICpu) (tick : BitVec 64) (hs : ∀ i, i < c.bus.c.l.length → riseN c.bus.c.l i = true) : someA c tick c.bus.c.l.length = (decide (c.bus.c.came < c.bus.c.l.length) && decide ((c.bus.c.l.getD c.bus.c.came IArr.zero).tick.toNat ≤ tick.toNat)) := by
  have hm : ∀ j i, i + j < c.bus.c.l.length → (c.bus.c.l.getD i IArr.zero).tick.toNat ≤ (c.bus.c.l.getD (i + j) IArr.zero).tick.toNat := by
    intro j
    induction j with
    | zero => intro i _; exact Nat.le_refl _
    | succ j ih =>
      intro i hi
      have h1 := ih i (by omega)
      have h2 := hs (i + (j + 1)) hi
      rw [riseN, decide_eq_false (by omega), Bool.false_or] at h2
      have h2 := of_decide_eq_true h2
      rw [show i + (j + 1) - 1 = i + j by omega] at h2
      omega
  rw [Bool.eq_iff_iff, someA, List.any_eq_true]
  simp only [Bool.and_eq_true, decide_eq_true_eq, List.mem_range]
  constructor
  · rintro ⟨i, hi, h1, h2⟩
    have := hm (i - c.bus.c.came) c.bus.c.came (by omega)
    rw [show c.bus.c.came + (i - c.bus.c.came) = i by omega] at this
    exact ⟨by omega, by omega⟩
  · rintro ⟨h1, h2⟩
    exact ⟨_, h1, Nat.le_refl _, h2⟩
theorem ifc {p q : Prop} [Decidable p] [Decidable q] (h : p ↔ q) (x y : Int) : (if p then x else y) = if q then x else y := by
  by_cases hp : p
  · rw [if_pos hp, if_pos (h.1 hp)]
  · rw [if_neg hp, if_neg (fun e => hp (h.2 e))]
theorem quiet_iff (c : ICpu) (n : Nat) (hn1 : 1 ≤ n) (hn : n ≤ 32) (hs : ∀ i, i < c.bus.c.l.length → riseN c.bus.c.l i = true) (ht : c.tick.toNat < 1152921504606846976) (ho : c.bus.t.off.toNat < 1152921504606846976) :
    ((n : Int) ≤ c.quiet) ↔ (allN n fun d => !heardAt c d) = true := by
  have hR : ((allN n fun d => !heardAt c d) = true) ↔ ∀ d, d < n → heardAt c d = false := by
    constructor
    · intro h d hd
      have := allN_get h d hd
      simpa using this
    · intro h
      exact allN_true fun i hi => by rw [h i hi]; rfl
  rw [hR]
  have htd : ∀ d, d ≤ 32 → (c.tick + BitVec.ofNat 64 d).toNat = c.tick.toNat + d := fun d hd => by
    rw [BitVec.toNat_add, BitVec.toNat_ofNat]; omega
  have hup : ∀ d, d ≤ 32 → c.bus.t.up (c.tick + BitVec.ofNat 64 d) = decide (c.bus.t.mark.toNat ≤ c.tick.toNat + d + c.bus.t.off.toNat) := fun d hd => by
    have : (c.bus.t.now (c.tick + BitVec.ofNat 64 d)).toNat = c.tick.toNat + d + c.bus.t.off.toNat := by
      rw [ITim.now, BitVec.toNat_add, htd d hd]; omega
    rw [ITim.up, this]
  have hup0 : c.bus.t.up c.tick = decide (c.bus.t.mark.toNat ≤ c.tick.toNat + c.bus.t.off.toNat) := by
    have := hup 0 (by omega)
    simpa using this
  have hleft : c.bus.t.up c.tick = false → ((c.bus.t.left c.tick).toNat : Int) = (c.bus.t.mark.toNat : Int) - (c.tick.toNat : Int) - (c.bus.t.off.toNat : Int) := fun h => by
    have hh := h
    rw [hup0] at hh
    have hh := of_decide_eq_false hh
    have e : (c.bus.t.now c.tick).toNat = c.tick.toNat + c.bus.t.off.toNat := by rw [ITim.now, BitVec.toNat_add]; omega
    rw [ITim.left, h, if_neg (by simp), BitVec.toNat_sub_of_le (by rw [BitVec.le_def]; omega), e]
    omega
  have hrd : ∀ d, d ≤ 32 → readyAt c (c.tick + BitVec.ofNat 64 d) = (decide (0 < c.bus.c.rx.length) || (decide (c.bus.c.came < c.bus.c.l.length) && decide ((c.bus.c.l.getD c.bus.c.came IArr.zero).tick.toNat ≤ c.tick.toNat + d))) := fun d hd => by
    rw [readyAt, someA_eq c _ hs, htd d hd]
  have hnx2 : c.bus.c.next.2 = decide (c.bus.c.came < c.bus.c.l.length) := by
    rw [ICon.next]; split
    · next h => rw [decide_eq_true h]
    · next h => rw [decide_eq_false h]
  have hnx1 : c.bus.c.came < c.bus.c.l.length → c.bus.c.next.1 = (c.bus.c.l.getD c.bus.c.came IArr.zero).tick := fun h => by rw [ICon.next, if_pos h]
  have e8 : (c.f.k.st &&& 8#32 = 0#32) ↔ c.f.k.st.getLsbD 3 = false := bit_and _ 3 (by omega)
  have e11 : (c.f.k.ie &&& 2048#32 = 0#32) ↔ c.f.k.ie.getLsbD 11 = false := bit_and _ 11 (by omega)
  have e7 : (c.f.k.ie &&& 128#32 = 0#32) ↔ c.f.k.ie.getLsbD 7 = false := bit_and _ 7 (by omega)
  have hw := wakes0_eq c
  have hh := heard_eq c
  have hsub := subI_v c.bus.c.next.1 c.tick
  have hq : c.quiet = if c.f.k.st.getLsbD 3 = false then 18446744073709551615 else if wakesN c.f.k (c.bus.calls c.tick) then 0 else
      if c.f.k.ie.getLsbD 7 = false then (if decide (c.bus.c.came < c.bus.c.l.length) = true ∧ ¬ c.f.k.ie.getLsbD 11 = false then subI c.bus.c.next.1 c.tick else 18446744073709551615) else mI (if decide (c.bus.c.came < c.bus.c.l.length) = true ∧ ¬ c.f.k.ie.getLsbD 11 = false then subI c.bus.c.next.1 c.tick else 18446744073709551615) ((c.bus.t.left c.tick).toNat : Int) := by
    have i1 : ∀ (x y : Int), (if c.f.k.st &&& 8#32 = 0#32 then x else y) = if c.f.k.st.getLsbD 3 = false then x else y := fun x y => ifc e8 x y
    have i2 : ∀ (x y : Int), (if c.f.k.ie &&& 128#32 = 0#32 then x else y) = if c.f.k.ie.getLsbD 7 = false then x else y := fun x y => ifc e7 x y
    have i3 : ∀ (x y : Int), (if c.bus.c.next.2 = true ∧ ¬ c.f.k.ie &&& 2048#32 = 0#32 then x else y) = if decide (c.bus.c.came < c.bus.c.l.length) = true ∧ ¬ c.f.k.ie.getLsbD 11 = false then x else y := fun x y => ifc (by rw [hnx2, e11]) x y
    rw [ICpu.quiet, i1]
    simp only
    rw [i2, i3]
  generalize c.f.k.st.getLsbD 3 = s3 at *
  generalize c.f.k.ie.getLsbD 11 = i11 at *
  generalize c.f.k.ie.getLsbD 7 = i7 at *
  generalize c.f.k.ie.getLsbD 3 = i3 at *
  generalize wakesN c.f.k (c.bus.calls c.tick) = wk at *
  generalize c.quiet = q at *
  cases s3 with
  | false =>
    rw [if_pos rfl] at hq
    constructor
    · intro _ d hd; rw [hh d]; rfl
    · intro _; omega
  | true =>
    rw [if_neg (by simp)] at hq
    have hh : ∀ d, d < n → heardAt c d = ((readyAt c (c.tick + BitVec.ofNat 64 d) && i11) || (c.bus.t.soft && i3) || (c.bus.t.up (c.tick + BitVec.ofNat 64 d) && i7)) := fun d _ => by rw [hh d, Bool.true_and]
    cases hwk : wk with
    | true =>
      rw [hwk, if_pos rfl] at hq
      rw [hwk] at hw
      constructor
      · intro h; omega
      · intro h
        have h0 := h 0 (by omega)
        rw [hh 0 (by omega), hrd 0 (by omega), hup 0 (by omega)] at h0
        rw [hup0] at hw
        simp only [Nat.add_zero] at h0
        exfalso
        have hw := hw.symm
        simp only [Bool.or_eq_true, Bool.and_eq_true] at hw
        rw [Bool.or_eq_false_iff, Bool.or_eq_false_iff] at h0
        obtain ⟨⟨a, b⟩, d⟩ := h0
        rcases hw with (⟨x, y⟩ | ⟨x, y⟩) | ⟨x, y⟩
        · rw [x, y, Bool.true_or, Bool.true_and] at a; cases a
        · rw [x, y] at b; cases b
        · rw [x, y] at d; cases d
    | false =>
      rw [hwk, if_neg (by simp)] at hq
      rw [hwk] at hw
      have hsoft : (c.bus.t.soft && i3) = false := by
        cases h : (c.bus.t.soft && i3) with
        | false => rfl
        | true => rw [h] at hw; simp at hw
      have hrx : (decide (0 < c.bus.c.rx.length) && i11) = false := by
        cases h : (decide (0 < c.bus.c.rx.length) && i11) with
        | false => rfl
        | true => rw [h] at hw; simp at hw
      have hu7 : (c.bus.t.up c.tick && i7) = false := by
        cases h : (c.bus.t.up c.tick && i7) with
        | false => rfl
        | true => rw [h] at hw; simp at hw
      have hR2 : (∀ d, d < n → heardAt c d = false) ↔ ((i11 = true → c.bus.c.came < c.bus.c.l.length → c.tick.toNat + n ≤ (c.bus.c.l.getD c.bus.c.came IArr.zero).tick.toNat) ∧ (i7 = true → c.tick.toNat + c.bus.t.off.toNat + n ≤ c.bus.t.mark.toNat)) := by
        constructor
        · intro h
          have hl := h (n - 1) (by omega)
          rw [hh _ (by omega), hrd _ (by omega), hup _ (by omega), hsoft, Bool.or_false] at hl
          simp only [Bool.or_eq_false_iff, Bool.and_eq_false_iff, decide_eq_false_iff_not] at hl
          refine ⟨fun a b => ?_, fun a => ?_⟩
          · rcases hl.1 with ⟨_, x | x⟩ | x
            · exact absurd b x
            · omega
            · rw [a] at x; cases x
          · rcases hl.2 with x | x
            · omega
            · rw [a] at x; cases x
        · rintro ⟨h1, h2⟩ d hd
          rw [hh _ hd, hrd _ (by omega), hup _ (by omega), hsoft, Bool.or_false]
          simp only [Bool.or_eq_false_iff, Bool.and_eq_false_iff, decide_eq_false_iff_not] at hrx ⊢
          refine ⟨?_, ?_⟩
          · cases i11 with
            | false => exact .inr rfl
            | true =>
              refine .inl ⟨?_, ?_⟩
              · rcases hrx with x | x
                · exact x
                · cases x
              · by_cases hb : c.bus.c.came < c.bus.c.l.length
                · have := h1 rfl hb
                  exact .inr (by omega)
                · exact .inl hb
          · cases i7 with
            | false => exact .inr rfl
            | true =>
              have := h2 rfl
              exact .inl (by omega)
      rw [hR2]
      have hltc : c.bus.c.next.1.toNat ≤ 18446744073709551615 := by have := c.bus.c.next.1.isLt; omega
      have hltm := c.bus.t.mark.isLt
      have hA : ((n : Int) ≤ (if decide (c.bus.c.came < c.bus.c.l.length) = true ∧ ¬ i11 = false then subI c.bus.c.next.1 c.tick else 18446744073709551615)) ↔ (i11 = true → c.bus.c.came < c.bus.c.l.length → c.tick.toNat + n ≤ (c.bus.c.l.getD c.bus.c.came IArr.zero).tick.toNat) := by
        by_cases hb : c.bus.c.came < c.bus.c.l.length
        · rw [hnx1 hb] at hsub
          cases i11 with
          | false =>
            rw [if_neg (by simp)]
            exact ⟨fun _ h => (by cases h), fun _ => by omega⟩
          | true =>
            rw [if_pos ⟨decide_eq_true hb, by simp⟩, hnx1 hb, hsub]
            constructor
            · intro h _ _; omega
            · intro h
              have := h rfl hb
              omega
        · rw [if_neg (by simp [hb])]
          exact ⟨fun _ _ h => absurd h hb, fun _ => by omega⟩
      rw [hq]
      generalize (if decide (c.bus.c.came < c.bus.c.l.length) = true ∧ ¬ i11 = false then subI c.bus.c.next.1 c.tick else 18446744073709551615) = a at *
      cases i7 with
      | false =>
        rw [if_pos rfl, hA]
        exact ⟨fun h => ⟨h, fun h => by cases h⟩, fun h => h.1⟩
      | true =>
        rw [if_neg (by simp), mI_v]
        have hu : c.bus.t.up c.tick = false := by simpa using hu7
        have hl := hleft hu
        rw [hup0] at hu
        have hu := of_decide_eq_false hu
        constructor
        · intro h
          exact ⟨hA.1 (by omega), fun _ => by omega⟩
        · rintro ⟨h1, h2⟩
          have := hA.2 h1
          have := h2 rfl
          omega
end Go.Ab
end
section
/- Contracts: the program's block, and the document's. -/
set_option linter.unusedSimpArgs false
set_option linter.unusedVariables false
set_option maxRecDepth 10000
namespace Go.Ab
open Go.Proofs
variable {G : Glo} {h : Heap}
theorem flat_snoc {α : Type} (f : α → List AV) (l : List α) (d : α) (k : Nat) (hk : k < l.length) : (l.take (k + 1)).flatMap f = (l.take k).flatMap f ++ f (l.getD k d) := by
  rw [List.take_add_one, List.flatMap_append]; simp [hk]
theorem Own_spec (b : IBk) (hw : b.wf) : Spec Tryz.prog G 7 [.agg b.cells] h (Is (bkP b) h) := by
  have hp := hw.hp
  have ho := hw.ho
  have he := hw.he
  obtain ⟨hs1, hs2, hs3⟩ := hw.hs
  refine Spec.weak (Q := fun r h' => ∃ c, h c = none ∧ r = .ptr c 0 ∧ h' = upd h c ⟨b.cells, 0⟩) ?_ ?_
  · refine Spec.walk C7ok rfl ?_
    simp only [push_cast, simprocAttr]
    intro b3 hb3
    refine lpc.rel [1, 3, 4] (fun m ρ h' => ∃ (k : Nat) (v : AV), m = b.ops.length - k ∧ k ≤ b.ops.length ∧ Own 6 (upd h b3 ⟨[.ro (wds b.pcs) b.pcs.length, v, .nils, .int .i64 b.last], 0⟩) v ((b.ops.take k).flatMap IOp.cells) k h' ∧
      ρ = [(1, .cp b.cells 0), (3, .ptr b3 0), (4, .int .i64 (k : Int))]) ⟨_, 0, .nils, rfl, by omega, .nil, rfl⟩ ?_
    rintro m _ h2 ⟨k, v, rfl, hk, hown, rfl⟩
    have hb2 := hown.get (upd_same _ _ _)
    simp only [push_cast, simprocAttr, hb2]
    refine ⟨fun hk2 => ⟨hk2, hk2, ?_⟩, fun hk2 => ?_⟩
    · refine Own.app hown (m := 1) (IOp.len _) (by omega) (by omega) fun v3 h3 ho3 => ?_
      have hb3' := ho3.get (upd_same _ _ _)
      have ho4 := Own.upd ho3 (b := b3) (x := ⟨[.ro (wds b.pcs) b.pcs.length, v3, .nils, .int .i64 b.last], 0⟩) (.inr ⟨_, upd_same _ _ _⟩)
      rw [upd_upd] at ho4
      simp (disch := omega) only [push_cast, simprocAttr, wrap_i64, toNat_ofInt64, Nat.min_eq_left, Int.toNat_of_nonneg, hb3', ho3.one]
      exact ⟨_, _, by omega, .refl _, k + 1, v3, rfl, by omega, by rw [flat_snoc _ _ IOp.zero _ hk2]; exact ho4, rfl⟩
    · obtain rfl : k = b.ops.length := by omega
      rw [List.take_length] at hown
      refine wkQ.cell hown (cs' := [.ro (wds b.pcs) b.pcs.length, Ab.ops b.ops, .nils, .int .i64 b.last]) rfl (fun i => ?_) ?_
      · match i with
        | 0 => exact .inl rfl
        | 1 => exact .inr ⟨rfl, rfl⟩
        | 2 => exact .inl rfl
        | 3 => exact .inl rfl
        | i + 4 => exact .inl rfl
      clear hb2 hown hk hk2 v h2
      simp only [push_cast, simprocAttr]
      refine lpc.rel [1, 3, 5] (fun m ρ h' => ∃ (k : Nat) (v : AV), m = b.exits.length - k ∧ k ≤ b.exits.length ∧ Own 5 (upd h b3 ⟨[.ro (wds b.pcs) b.pcs.length, Ab.ops b.ops, v, .int .i64 b.last], 0⟩) v ((b.exits.take k).flatMap IEx.cells) k h' ∧
        ρ = [(1, .cp b.cells 0), (3, .ptr b3 0), (5, .int .i64 (k : Int))]) ⟨_, 0, .nils, rfl, by omega, .nil, rfl⟩ ?_
      rintro m _ h2 ⟨k, v, rfl, hk, hown, rfl⟩
      have hb2 := hown.get (upd_same _ _ _)
      simp only [push_cast, simprocAttr]
      refine ⟨fun hk2 => ⟨hk2, hk2, fun b6 hb6 => ?_⟩, fun hk2 => ?_⟩
      · rw [era_none hb6]
        have hml := getD_map (n := k) hs3
        have hsn := flat_snoc IEx.cells b.exits IEx.zero k hk2
        generalize b.exits.getD k IEx.zero = e at hml hsn ⊢
        intro b7 hb7
        have hb73 : ¬ b3 = b7 := fun e => by rw [← e, hb2] at hb7; cases hb7
        have hb37 : ¬ b7 = b3 := fun e => hb73 e.symm
        have hh7 : h b7 = none := by
          have := hown.sub.none hb7
          rw [upd_ne hb37] at this
          exact this
        refine lpc.rel [1, 3, 5, 6, 7, 8] (fun m ρ h' => ∃ (j : Nat) (v7 : AV), m = e.map.length - j ∧ j ≤ e.map.length ∧ Own 2 (upd h2 b7 ⟨[.int .i64 e.done, .int .u32 (e.pc.toNat : Int), .int .i64 e.to, .int .i64 e.why, v7], 0⟩) v7 ((e.map.take j).flatMap IVl.cells) j h' ∧
          ρ = [(1, .cp b.cells 0), (3, .ptr b3 0), (5, .int .i64 (k : Int)), (6, .cp e.cells 0), (7, .ptr b7 0), (8, .int .i64 (j : Int))]) ⟨_, 0, .nils, rfl, by omega, .nil, rfl⟩ ?_
        rintro m _ g2 ⟨j, v7, rfl, hj, ho7, rfl⟩
        have hg7 := ho7.get (upd_same _ _ _)
        simp only [push_cast, simprocAttr, hg7]
        refine ⟨fun hj2 => ⟨hj2, hj2, ?_⟩, fun hj2 => ?_⟩
        · refine Own.app ho7 (m := 1) (IVl.len _) (by omega) (by omega) fun v8 h8 ho8 => ?_
          have hg8 := ho8.get (upd_same _ _ _)
          have ho9 := Own.upd ho8 (b := b7) (x := ⟨[.int .i64 e.done, .int .u32 (e.pc.toNat : Int), .int .i64 e.to, .int .i64 e.why, v8], 0⟩) (.inr ⟨_, upd_same _ _ _⟩)
          rw [upd_upd] at ho9
          simp (disch := omega) only [push_cast, simprocAttr, wrap_i64, toNat_ofInt64, Nat.min_eq_left, Int.toNat_of_nonneg, hg8, ho8.one]
          exact ⟨_, _, by omega, .refl _, j + 1, v8, rfl, by omega, by rw [flat_snoc _ _ IVl.zero _ hj2]; exact ho9, rfl⟩
        · obtain rfl : j = e.map.length := by omega
          rw [List.take_length] at ho7
          refine wkQ.cell ho7 (cs' := e.cells) rfl (fun i => ?_) ?_
          · match i with
            | 0 => exact .inl rfl
            | 1 => exact .inl rfl
            | 2 => exact .inl rfl
            | 3 => exact .inl rfl
            | 4 => exact .inr ⟨rfl, rfl⟩
            | i + 5 => exact .inl rfl
          clear hg7 ho7 hj hj2 v7 g2
          have ho' := Own.upd hown (b := b7) (x := ⟨e.cells, 0⟩) (.inl hb7)
          have hb2' := ho'.get (b := b3) (by rw [upd_ne hb73]; exact upd_same _ _ _)
          simp only [push_cast, simprocAttr, hb2', upd_at, hb73, hb2]
          refine Own.app ho' (m := 1) (IEx.len _) (by omega) (by omega) fun v4 h4 ho4 => ?_
          have hg3 := ho4.get (b := b3) (by rw [upd_ne hb73]; exact upd_same _ _ _)
          have hg7 := ho4.get (b := b7) (upd_same _ _ _)
          simp (disch := omega) only [push_cast, simprocAttr, wrap_i64, toNat_ofInt64, Nat.min_eq_left, Int.toNat_of_nonneg, hg3, hg7, ho4.one]
          have ho5 := Own.upd ho4 (b := b3) (x := ⟨[.ro (wds b.pcs) b.pcs.length, Ab.ops b.ops, v4, .int .i64 b.last], 0⟩) (.inr ⟨_, by rw [upd_ne hb73]; exact upd_same _ _ _⟩)
          rw [upd_comm hb37, upd_upd] at ho5
          obtain ⟨h6, hs6, ho6⟩ := Own.drop ho5 (by rw [upd_ne hb37]; exact hh7)
          exact ⟨_, h6, by omega, hs6, k + 1, v4, rfl, by omega, by rw [hsn]; exact ho6, rfl⟩
      · obtain rfl : k = b.exits.length := by omega
        rw [List.take_length] at hown
        refine wkQ.cell hown (cs' := b.cells) rfl (fun i => ?_) ?_
        · match i with
          | 0 => exact .inl rfl
          | 1 => exact .inl rfl
          | 2 => exact .inr ⟨rfl, rfl⟩
          | 3 => exact .inl rfl
          | i + 4 => exact .inl rfl
        simp only [push_cast, simprocAttr]
        exact ⟨b3, hb3, rfl, rfl⟩
  · rintro _ _ ⟨c, hc, rfl, rfl⟩
    exact ⟨_, _, ⟨rfl, rfl⟩, Le.box hc⟩
end Go.Ab
end
section
/- The laws of eval: what is right of what is behind a block. -/
set_option linter.unusedSimpArgs false
set_option linter.unusedVariables false
set_option maxRecDepth 10000
namespace Go.Ab
open Go.Proofs
variable {G : Glo} {h : Heap}
theorem runN_mem (regs : List (BitVec 32)) : ∀ (l : List IOp) (vals : List (BitVec 32)) (M : IRam), (∀ o ∈ l, o.code ≠ 5) → (runN regs l vals M).2.2 = M := by
  intro l
  induction l with
  | nil => intro vals M _; rfl
  | cons o r ih =>
    intro vals M hc
    have h5 := hc o (by simp)
    have hs : (stepN regs o vals M).2.2 = M := by
      unfold stepN
      (repeat' split) <;> first | rfl | (rename_i e; exact absurd e h5) | skip
    simp only [runN]
    split
    · rw [ih _ _ (fun o' ho => hc o' (by simp [ho])), hs]
    · exact hs
theorem runN_exit {b : IBk} (hr : b.right = true) (regs : List (BitVec 32)) : ∀ (n k : Nat) (vals : List (BitVec 32)) (M : IRam), k + n = b.ops.length → ∀ x, (runN regs (b.ops.drop k) vals M).1 = some x → 0 ≤ x ∧ x < b.exits.length := by
  intro n
  induction n with
  | zero =>
    intro k vals M hk x hx
    rw [List.drop_of_length_le (by omega)] at hx
    cases hx
  | succ n ih =>
    intro k vals M hk x hx
    have hk2 : k < b.ops.length := by omega
    have hdr : b.ops.drop k = b.op k :: b.ops.drop (k + 1) := by
      rw [List.drop_eq_getElem_cons hk2]; congr 1; simp [IBk.op, hk2]
    rw [hdr] at hx
    simp only [runN] at hx
    split at hx
    · exact ih (k + 1) _ _ (by omega) x hx
    · rename_i hne
      cases hx
      have := exit_ok (step_exit hr k hk2 regs vals M hne)
      exact this.1
theorem exitOf_ok {b : IBk} (hr : b.right = true) (regs : List (BitVec 32)) (M : IRam) : 0 ≤ b.exitOf regs M ∧ b.exitOf regs M < b.exits.length := by
  have hlast : b.exit b.last b.ops.length = true := by
    simp only [IBk.right, Bool.and_eq_true] at hr
    exact hr.2
  unfold IBk.exitOf
  cases hx : (runN regs b.ops [] M).1 with
  | none => exact (exit_ok hlast).1
  | some x => exact runN_exit hr regs b.ops.length 0 [] M (by omega) x hx
theorem foldR_no (vals : List (BitVec 32)) (m : List IVl) (regs : List (BitVec 32)) (i : Nat) (hp : ∀ v ∈ m, 0 ≤ v.reg) (hn : ∀ v ∈ m, v.reg ≠ i) : (foldR vals m regs).getD i 0#32 = regs.getD i 0#32 := by
  induction m generalizing regs with
  | nil => rfl
  | cons v r ih =>
    have : foldR vals (v :: r) regs = foldR vals r (regs.set v.reg.toNat (lv vals v.val)) := rfl
    rw [this, ih _ (fun u hu => hp u (by simp [hu])) (fun u hu => hn u (by simp [hu]))]
    have h1 := hp v (by simp)
    have h2 := hn v (by simp)
    simp only [List.getD_eq_getElem?_getD, List.getElem?_set]
    rw [if_neg (by omega)]
theorem check_right {b : IBk} (hc : b.check = 0) : b.right = true := by
  unfold IBk.check at hc
  split at hc
  · cases hc
  · split at hc
    · assumption
    · cases hc
theorem map_reg {b : IBk} (hr : b.right = true) {n : Nat} (hn : n < b.exits.length) : ∀ v ∈ (b.ex n).map, 0 ≤ v.reg := by
  intro v hv
  obtain ⟨i, hi, rfl⟩ := List.getElem_of_mem hv
  have := leaves_ok (right_ex hr n hn) i hi
  simp only [IEx.vl, List.getD_eq_getElem?_getD, List.getElem?_eq_getElem hi, Option.getD_some] at this
  omega
theorem oc_reg {regs : List (BitVec 32)} (hl : regs.length = 32) {pc : BitVec 32} {done why exit : Int} (i : Nat) (hi : i < 32) : (outC regs pc done why exit)[i]? = some (.int .u32 ((regs.getD i 0#32).toNat : Int)) := by
  rw [outC, List.getElem?_append_left (by simp [wds, hl]; omega), wds_get, if_pos (by omega)]
theorem oc_at {regs : List (BitVec 32)} (hl : regs.length = 32) {pc : BitVec 32} {done why exit : Int} : (outC regs pc done why exit)[32]? = some (.int .u32 (pc.toNat : Int)) ∧ (outC regs pc done why exit)[33]? = some (.int .i64 done) ∧ (outC regs pc done why exit)[34]? = some (.int .i64 why) ∧ (outC regs pc done why exit)[35]? = some (.int .i64 exit) := by
  have hw : (wds regs).length = 32 := by simp [wds, hl]
  refine ⟨?_, ?_, ?_, ?_⟩ <;> (rw [outC, List.getElem?_append_right (by omega), hw]; rfl)
end Go.Ab
end
section
/- May a block be done? The program's answer, and the document's. -/
set_option linter.unusedSimpArgs false
set_option linter.unusedVariables false
set_option maxRecDepth 10000
namespace Go.Ab
open Go.Proofs
variable {G : Glo}
theorem check_pcs {b : IBk} (hc : b.check = 0) : 1 ≤ b.pcs.length ∧ b.pcs.length ≤ 32 ∧ b.ops.length ≤ 512 := by
  have hr := hc
  unfold IBk.check at hc
  split at hc
  · cases hc
  · rename_i hl
    simp only [IBk.long, Bool.or_eq_true, decide_eq_true_eq] at hl
    split at hc
    · rename_i h2
      simp only [IBk.right, Bool.and_eq_true, decide_eq_true_eq] at h2
      omega
    · cases hc
/-- May a right block be done? -/
def mayN (c : ICpu) (b : IBk) (fuel : Int) : Bool := !c.bus.off && decide (b.pcs.getD 0 0#32 = c.pc) && decide ((b.pcs.length : Int) ≤ fuel) && decide ((b.pcs.length : Int) ≤ c.quiet)
def askN (c : ICpu) (b : IBk) (fuel : Int) : Int := if b.check ≠ 0 then b.check else if mayN c b fuel then 0 else 4
theorem neq32 (a b : BitVec 32) : ((a.toNat : Int) != (b.toNat : Int)) = decide (a ≠ b) := by
  have := eq32 a b
  rw [bne, this]
  by_cases h : a = b <;> simp [h]
section
variable {H : Heap} {l : Plc} {c : ICpu} {M : IRam} {b : IBk}
theorem askApply_spec (hm : MachAt H l c M) (hw : b.wf) (fuel : Int) : Spec Tryz.prog G 19 [.ptr l.p 0, bkP b, .int .i64 fuel] H (Is (.int .i64 (askN c b fuel)) H) := by
  have hC := Check_spec (G := G) (h := H) b hw
  have hA : askN c b fuel = if b.check ≠ 0 then b.check else if mayN c b fuel then 0 else 4 := rfl
  have hB := cBus_spec (G := G) hm
  have hO := bOff_spec (G := G) hm
  have hQ := quiet_spec (G := G) hm
  have hM : mayN c b fuel = (!c.bus.off && decide (b.pcs.getD 0 0#32 = c.pc) && decide ((b.pcs.length : Int) ≤ fuel) && decide ((b.pcs.length : Int) ≤ c.quiet)) := rfl
  obtain ⟨v, hc, _⟩ := hm.hc
  have hk := @check_pcs b
  generalize askN c b fuel = X at *
  generalize mayN c b fuel = Y at *
  generalize c.quiet = q at *
  generalize b.check = ch at *
  by_cases h0 : ch = 0
  · rw [if_neg (by simp [h0])] at hA
    obtain ⟨k1, k2, k3⟩ := hk h0
    have h0' : (ch != 0) = false := by simp [h0]
    have k1' : 0 < b.pcs.length := k1
    refine Spec.is C19ok rfl ?_
    simp only [push_cast, simprocAttr]
    refine hC.to ?_
    simp only [push_cast, simprocAttr, h0']
    refine hB.to ?_
    simp only [push_cast, simprocAttr]
    refine hO.to ?_
    have k1i : (0 : Int) < (b.pcs.length : Int) := by omega
    have hofi : ((BitVec.ofInt 64 (b.pcs.length : Int)).toNat : Int) = (b.pcs.length : Int) := by rw [BitVec.ofInt_natCast, BitVec.toNat_ofNat]; omega
    have hcv : (BitVec.ofNat 64 b.pcs.length).toNat = b.pcs.length := by rw [BitVec.toNat_ofNat]; omega
    rcases ho : c.bus.off with _ | _
    · rw [ho, Bool.not_false, Bool.true_and] at hM
      by_cases hp : b.pcs.getD 0 0#32 = c.pc
      · rw [decide_eq_true hp, Bool.true_and] at hM
        have hpn : (b.pcs.getD 0 0#32 != c.pc) = false := by rw [hp]; simp
        by_cases hf : (b.pcs.length : Int) ≤ fuel
        · have hf' : ¬ ((b.pcs.length : Int) > fuel) := by omega
          rw [decide_eq_true hf, Bool.true_and] at hM
          simp only [push_cast, simprocAttr, k1', k1i, hc, hpn, hf', hcv]
          refine hQ.to ?_
          by_cases hq : (b.pcs.length : Int) ≤ q
          · have hq' : ¬ ((b.pcs.length : Int) > q) := by omega
            rw [decide_eq_true hq] at hM
            simp only [push_cast, simprocAttr, hq', hcv]
            rw [hA, hM, hofi]
            exact ⟨fun h => absurd h hq', fun _ => rfl⟩
          · have hq' : (b.pcs.length : Int) > q := by omega
            rw [decide_eq_false hq] at hM
            simp only [push_cast, simprocAttr, hq', hcv]
            rw [hA, hM, hofi]
            exact ⟨fun _ => rfl, fun h => absurd hq' h⟩
        · have hf' : (b.pcs.length : Int) > fuel := by omega
          rw [decide_eq_false hf, Bool.false_and] at hM
          simp only [push_cast, simprocAttr, k1', k1i, hc, hpn, hf']
          rw [hA, hM]; rfl
      · rw [decide_eq_false hp, Bool.false_and, Bool.false_and] at hM
        have hpn : (b.pcs.getD 0 0#32 != c.pc) = true := by simpa using hp
        simp only [push_cast, simprocAttr, k1', k1i, hc, hpn]
        rw [hA, hM]; rfl
    · rw [ho, Bool.not_true, Bool.false_and, Bool.false_and, Bool.false_and] at hM
      simp only [push_cast, simprocAttr]
      rw [hA, hM]; rfl
  · rw [if_pos h0] at hA
    have h0' : (ch != 0) = true := by simp [h0]
    refine Spec.is C19ok rfl ?_
    simp only [push_cast, simprocAttr]
    refine hC.to ?_
    simp only [push_cast, simprocAttr, h0']
    rw [hA]
theorem mayA_spec (hm : MachAt H l c M) (hw : b.wf) (fuel : Int) : Spec Tryz.prog G 12 [.ptr l.p 0, bkP b, .int .i64 fuel] H (Is (.bool (askN c b fuel == 0)) H) := by
  have hA := askApply_spec (G := G) hm hw fuel
  refine Spec.is C12ok rfl ?_
  simp only [push_cast, simprocAttr]
  refine hA.to ?_
  simp only [push_cast, simprocAttr]
def out0 : List AV := [.int .u32 0, .int .u32 0, .int .u32 0, .int .u32 0, .int .u32 0, .int .u32 0, .int .u32 0, .int .u32 0, .int .u32 0, .int .u32 0, .int .u32 0, .int .u32 0, .int .u32 0, .int .u32 0, .int .u32 0, .int .u32 0, .int .u32 0, .int .u32 0, .int .u32 0, .int .u32 0, .int .u32 0, .int .u32 0, .int .u32 0, .int .u32 0, .int .u32 0, .int .u32 0, .int .u32 0, .int .u32 0, .int .u32 0, .int .u32 0, .int .u32 0, .int .u32 0, .int .u32 0, .int .i64 0, .int .i64 0, .int .i64 0]
theorem doA_no (hm : MachAt H l c M) (hw : b.wf) (fuel : Int) (hn : askN c b fuel ≠ 0) : Spec Tryz.prog G 8 [.ptr l.p 0, bkP b, .int .i64 fuel] H (Is (.tup [.agg out0, .int .i64 (askN c b fuel)]) H) := by
  have hn' : (askN c b fuel != 0) = true := by simp [hn]
  refine Spec.is C8ok rfl ?_
  simp only [push_cast, simprocAttr]
  intro c6 hc6
  have m6 : upd H c6 ⟨[.int .u32 0, .int .u32 0, .int .u32 0, .int .u32 0, .int .u32 0, .int .u32 0, .int .u32 0, .int .u32 0, .int .u32 0, .int .u32 0, .int .u32 0, .int .u32 0, .int .u32 0, .int .u32 0, .int .u32 0, .int .u32 0, .int .u32 0, .int .u32 0, .int .u32 0, .int .u32 0, .int .u32 0, .int .u32 0, .int .u32 0, .int .u32 0, .int .u32 0, .int .u32 0, .int .u32 0, .int .u32 0, .int .u32 0, .int .u32 0, .int .u32 0, .int .u32 0, .int .u32 0, .int .i64 0, .int .i64 0, .int .i64 0], 0⟩ c6 = some ⟨[.int .u32 0, .int .u32 0, .int .u32 0, .int .u32 0, .int .u32 0, .int .u32 0, .int .u32 0, .int .u32 0, .int .u32 0, .int .u32 0, .int .u32 0, .int .u32 0, .int .u32 0, .int .u32 0, .int .u32 0, .int .u32 0, .int .u32 0, .int .u32 0, .int .u32 0, .int .u32 0, .int .u32 0, .int .u32 0, .int .u32 0, .int .u32 0, .int .u32 0, .int .u32 0, .int .u32 0, .int .u32 0, .int .u32 0, .int .u32 0, .int .u32 0, .int .u32 0, .int .u32 0, .int .i64 0, .int .i64 0, .int .i64 0], 0⟩ := upd_same _ _ _
  have s6 : Sub H (upd H c6 ⟨[.int .u32 0, .int .u32 0, .int .u32 0, .int .u32 0, .int .u32 0, .int .u32 0, .int .u32 0, .int .u32 0, .int .u32 0, .int .u32 0, .int .u32 0, .int .u32 0, .int .u32 0, .int .u32 0, .int .u32 0, .int .u32 0, .int .u32 0, .int .u32 0, .int .u32 0, .int .u32 0, .int .u32 0, .int .u32 0, .int .u32 0, .int .u32 0, .int .u32 0, .int .u32 0, .int .u32 0, .int .u32 0, .int .u32 0, .int .u32 0, .int .u32 0, .int .u32 0, .int .u32 0, .int .i64 0, .int .i64 0, .int .i64 0], 0⟩) := (Sub.refl H).alloc hc6
  have hm6 : MachAt (Ab.upd H c6 ⟨[.int .u32 0, .int .u32 0, .int .u32 0, .int .u32 0, .int .u32 0, .int .u32 0, .int .u32 0, .int .u32 0, .int .u32 0, .int .u32 0, .int .u32 0, .int .u32 0, .int .u32 0, .int .u32 0, .int .u32 0, .int .u32 0, .int .u32 0, .int .u32 0, .int .u32 0, .int .u32 0, .int .u32 0, .int .u32 0, .int .u32 0, .int .u32 0, .int .u32 0, .int .u32 0, .int .u32 0, .int .u32 0, .int .u32 0, .int .u32 0, .int .u32 0, .int .u32 0, .int .u32 0, .int .i64 0, .int .i64 0, .int .i64 0], 0⟩) l c M := hm.upd hc6
  generalize upd H c6 ⟨[.int .u32 0, .int .u32 0, .int .u32 0, .int .u32 0, .int .u32 0, .int .u32 0, .int .u32 0, .int .u32 0, .int .u32 0, .int .u32 0, .int .u32 0, .int .u32 0, .int .u32 0, .int .u32 0, .int .u32 0, .int .u32 0, .int .u32 0, .int .u32 0, .int .u32 0, .int .u32 0, .int .u32 0, .int .u32 0, .int .u32 0, .int .u32 0, .int .u32 0, .int .u32 0, .int .u32 0, .int .u32 0, .int .u32 0, .int .u32 0, .int .u32 0, .int .u32 0, .int .u32 0, .int .i64 0, .int .i64 0, .int .i64 0], 0⟩ = H6 at m6 s6 hm6 ⊢
  refine (askApply_spec (G := G) hm6 hw fuel).to ?_
  generalize askN c b fuel = e at *
  simp only [push_cast, simprocAttr, hn', m6]
  refine ⟨rfl, fun x y hx => ?_⟩
  have hxb : x ≠ c6 := fun e => by rw [e, hc6] at hx; cases hx
  rw [upd_ne hxb]; exact s6 _ _ hx
theorem outC_regs {R : List (BitVec 32)} (hR : R.length = 32) (pc : BitVec 32) (d w x : Int) : List.take 31 (List.take 31 (List.drop 1 (outC R pc d w x))) = wds (R.drop 1) := by
  rw [List.take_take, Nat.min_self, outC, List.drop_append_of_le_length (by simp [wds]; omega), List.take_append_of_le_length (by simp [wds]; omega), List.take_of_length_le (by simp [wds]; omega)]
  simp [wds]
theorem cpb_copy (c : ICpu) (bus : Nat) (v : AV) {R : List (BitVec 32)} (hR : R.length = 32) (h0 : R.getD 0 0#32 = c.regs.toList.getD 0 0#32) : splice (cpuC c bus v) 2 (wds (R.drop 1)) = cpuC { c with regs := rgOf R } bus v := by
  have hw : (wds (R.drop 1)).length = 31 := by simp [wds]; omega
  have hl : c.regs.toList.length = 32 := by simp
  rw [splice_len (by rw [hw]; omega), hw, cpuC_eq]
  have h1 : (rec32 (.int .u32 (c.pc.toNat : Int)) c.regs (c.tp bus v)).drop (2 + 31) = c.tp bus v := r32_drop _ _ _ 0
  rw [h1]
  have h2 : (rec32 (.int .u32 (c.pc.toNat : Int)) c.regs (c.tp bus v)).take 2 = [.int .u32 (c.pc.toNat : Int), .int .u32 ((R.getD 0 0#32).toNat : Int)] := by
    rw [h0, rec32]
    generalize c.regs.toList = r at *
    match r, hl with
    | a :: r, _ => rfl
  rw [h2]
  show _ = .int .u32 (c.pc.toNat : Int) :: (wds (rgOf R).toList ++ c.tp bus v)
  rw [rgOf_toList hR]
  match R, hR with
  | a :: r, _ => rfl
theorem mach_cut {H2 : Heap} {c' : ICpu} {M' : IRam} (h2 : MachAt H2 l c' M') (ho : ∀ d, H d ≠ none → ¬ l.has d → H2 d = H d) : ∃ h1, Sub h1 H2 ∧ MachAt h1 l c' M' ∧ ∀ d, ¬ l.has d → h1 d = H d := by
  classical
  refine ⟨fun d => if l.has d then H2 d else H d, fun d x hd => ?_, h2.same fun d hd => if_pos hd, fun d hd => if_neg hd⟩
  simp only at hd
  split at hd
  · exact hd
  · next hn => rw [ho d (by rw [hd]; simp) hn]; exact hd
/-- The machine behind a block. -/
def doC (c : ICpu) (b : IBk) (M : IRam) : ICpu :=
  let n := b.exitOf c.regs.toList M
  let e := b.ex n.toNat
  let vals := (runN c.regs.toList b.ops [] M).2.1
  { c with pc := leaveP e vals, regs := rgOf (leaveR e c.regs.toList vals), tick := c.tick + BitVec.ofInt 64 e.done, ret := c.ret + BitVec.ofInt 64 e.done, bus := { c.bus with b := (b.ramOf c.regs.toList M).b } }
def DoneA (H : Heap) (l : Plc) (c : ICpu) (b : IBk) (M : IRam) (r : AV) (H' : Heap) : Prop := r = .tup [.agg (b.outOf c.regs.toList M), .int .i64 0] ∧ MachAt H' l (doC c b M) (b.ramOf c.regs.toList M) ∧ ∀ d, ¬ l.has d → H' d = H d
theorem doA_yes (hm : MachAt H l c M) (hw : b.wf) (fuel : Int) (hx : ∀ e ∈ b.exits, e.map.length ≤ 1000) (hn : askN c b fuel = 0) (hc : b.check = 0) : Spec Tryz.prog G 8 [.ptr l.p 0, bkP b, .int .i64 fuel] H (DoneA H l c b M) := by
  refine Spec.drop ?_
  have hlen : c.regs.toList.length = 32 := by simp
  obtain ⟨v, hcp, _⟩ := hm.hc
  refine Spec.walk C8ok rfl ?_
  simp only [push_cast, simprocAttr]
  intro c6 hc6
  have m6 : upd H c6 ⟨[.int .u32 0, .int .u32 0, .int .u32 0, .int .u32 0, .int .u32 0, .int .u32 0, .int .u32 0, .int .u32 0, .int .u32 0, .int .u32 0, .int .u32 0, .int .u32 0, .int .u32 0, .int .u32 0, .int .u32 0, .int .u32 0, .int .u32 0, .int .u32 0, .int .u32 0, .int .u32 0, .int .u32 0, .int .u32 0, .int .u32 0, .int .u32 0, .int .u32 0, .int .u32 0, .int .u32 0, .int .u32 0, .int .u32 0, .int .u32 0, .int .u32 0, .int .u32 0, .int .u32 0, .int .i64 0, .int .i64 0, .int .i64 0], 0⟩ c6 = some ⟨[.int .u32 0, .int .u32 0, .int .u32 0, .int .u32 0, .int .u32 0, .int .u32 0, .int .u32 0, .int .u32 0, .int .u32 0, .int .u32 0, .int .u32 0, .int .u32 0, .int .u32 0, .int .u32 0, .int .u32 0, .int .u32 0, .int .u32 0, .int .u32 0, .int .u32 0, .int .u32 0, .int .u32 0, .int .u32 0, .int .u32 0, .int .u32 0, .int .u32 0, .int .u32 0, .int .u32 0, .int .u32 0, .int .u32 0, .int .u32 0, .int .u32 0, .int .u32 0, .int .u32 0, .int .i64 0, .int .i64 0, .int .i64 0], 0⟩ := upd_same _ _ _
  have s6 : Sub H (upd H c6 ⟨[.int .u32 0, .int .u32 0, .int .u32 0, .int .u32 0, .int .u32 0, .int .u32 0, .int .u32 0, .int .u32 0, .int .u32 0, .int .u32 0, .int .u32 0, .int .u32 0, .int .u32 0, .int .u32 0, .int .u32 0, .int .u32 0, .int .u32 0, .int .u32 0, .int .u32 0, .int .u32 0, .int .u32 0, .int .u32 0, .int .u32 0, .int .u32 0, .int .u32 0, .int .u32 0, .int .u32 0, .int .u32 0, .int .u32 0, .int .u32 0, .int .u32 0, .int .u32 0, .int .u32 0, .int .i64 0, .int .i64 0, .int .i64 0], 0⟩) := (Sub.refl H).alloc hc6
  have hm6 : MachAt (Ab.upd H c6 ⟨[.int .u32 0, .int .u32 0, .int .u32 0, .int .u32 0, .int .u32 0, .int .u32 0, .int .u32 0, .int .u32 0, .int .u32 0, .int .u32 0, .int .u32 0, .int .u32 0, .int .u32 0, .int .u32 0, .int .u32 0, .int .u32 0, .int .u32 0, .int .u32 0, .int .u32 0, .int .u32 0, .int .u32 0, .int .u32 0, .int .u32 0, .int .u32 0, .int .u32 0, .int .u32 0, .int .u32 0, .int .u32 0, .int .u32 0, .int .u32 0, .int .u32 0, .int .u32 0, .int .u32 0, .int .i64 0, .int .i64 0, .int .i64 0], 0⟩) l c M := hm.upd hc6
  generalize upd H c6 ⟨[.int .u32 0, .int .u32 0, .int .u32 0, .int .u32 0, .int .u32 0, .int .u32 0, .int .u32 0, .int .u32 0, .int .u32 0, .int .u32 0, .int .u32 0, .int .u32 0, .int .u32 0, .int .u32 0, .int .u32 0, .int .u32 0, .int .u32 0, .int .u32 0, .int .u32 0, .int .u32 0, .int .u32 0, .int .u32 0, .int .u32 0, .int .u32 0, .int .u32 0, .int .u32 0, .int .u32 0, .int .u32 0, .int .u32 0, .int .u32 0, .int .u32 0, .int .u32 0, .int .u32 0, .int .i64 0, .int .i64 0, .int .i64 0], 0⟩ = H6 at m6 s6 hm6 ⊢
  have ha := askApply_spec (G := G) hm6 hw fuel
  rw [hn] at ha
  have hp6 := s6 _ _ hcp
  have hU : ∀ b3 X, H6 b3 = none → MachAt (Ab.upd H6 b3 X) l c M := fun b3 X hb3 => hm6.upd hb3
  have hP : ∀ b3 X, H6 b3 = none → Ab.upd H6 b3 X l.p = some ⟨cpuC c l.bus v, 0⟩ := fun b3 X hb3 => by rw [upd_ne (fun e => by rw [e, hb3] at hp6; cases hp6)]; exact hp6
  have hD := fun (h : Heap) (hr : RamAt h l.ram M) => Do_right (G := G) (regs := c.regs.toList) hr hw hc hlen hx
  have hout : b.outOf c.regs.toList M = outC (leaveR (b.ex (b.exitOf c.regs.toList M).toNat) c.regs.toList (runN c.regs.toList b.ops [] M).2.1) (leaveP (b.ex (b.exitOf c.regs.toList M).toNat) (runN c.regs.toList b.ops [] M).2.1) (b.ex (b.exitOf c.regs.toList M).toNat).done (b.ex (b.exitOf c.regs.toList M).toNat).why (b.exitOf c.regs.toList M) := rfl
  have hdo : doC c b M = { c with pc := leaveP (b.ex (b.exitOf c.regs.toList M).toNat) (runN c.regs.toList b.ops [] M).2.1, regs := rgOf (leaveR (b.ex (b.exitOf c.regs.toList M).toNat) c.regs.toList (runN c.regs.toList b.ops [] M).2.1), tick := c.tick + BitVec.ofInt 64 (b.ex (b.exitOf c.regs.toList M).toNat).done, ret := c.ret + BitVec.ofInt 64 (b.ex (b.exitOf c.regs.toList M).toNat).done, bus := { c.bus with b := (b.ramOf c.regs.toList M).b } } := rfl
  have hpr : ¬ l.ram.has l.p := fun e => (Plc.nd hm.nd).2.1.2.2.2.2.1 _ e rfl
  have hR : (leaveR (b.ex (b.exitOf c.regs.toList M).toNat) c.regs.toList (runN c.regs.toList b.ops [] M).2.1).length = 32 := by rw [leaveR, foldR_len]; simp
  simp only [DoneA]
  have hR0 : (leaveR (b.ex (b.exitOf c.regs.toList M).toNat) c.regs.toList (runN c.regs.toList b.ops [] M).2.1).getD 0 0#32 = c.regs.toList.getD 0 0#32 := by
    have hright := check_right hc
    obtain ⟨x1, x2⟩ := exitOf_ok hright c.regs.toList M
    have hreg : ∀ v ∈ (b.ex (b.exitOf c.regs.toList M).toNat).map, 1 ≤ v.reg := by
      intro v hv
      obtain ⟨i, hi, rfl⟩ := List.getElem_of_mem hv
      have := leaves_ok (right_ex hright (b.exitOf c.regs.toList M).toNat (by omega)) i hi
      simp only [IEx.vl, List.getD_eq_getElem?_getD, List.getElem?_eq_getElem hi, Option.getD_some] at this
      omega
    rw [leaveR]
    exact foldR_no _ _ _ 0 (fun v hv => by have := hreg v hv; omega) (fun v hv => by have := hreg v hv; omega)
  rw [hout] at hD ⊢
  rw [hdo]
  generalize leaveR (b.ex (b.exitOf c.regs.toList M).toNat) c.regs.toList (runN c.regs.toList b.ops [] M).2.1 = R at *
  generalize leaveP (b.ex (b.exitOf c.regs.toList M).toNat) (runN c.regs.toList b.ops [] M).2.1 = Pc at *
  generalize (b.ex (b.exitOf c.regs.toList M).toNat).done = dn at *
  generalize (b.ex (b.exitOf c.regs.toList M).toNat).why = wh at *
  generalize b.exitOf c.regs.toList M = xn at *
  generalize b.ramOf c.regs.toList M = M' at *
  have hasR : ∀ d, l.ram.has d → l.has d := fun d hd => by
    simp only [Pl.has] at hd
    simp only [Plc.has, Plc.l, List.mem_cons, List.mem_append, List.cons_append, List.nil_append, List.not_mem_nil, or_false, Option.mem_toList]
    grind
  have fin : ∀ (H7 : Heap) (c9 : Nat), MachAt H7 l { c with bus := { c.bus with b := M'.b } } M' → H7 l.p = some ⟨cpuC c l.bus v, 0⟩ → H6 c9 = none → (∀ d, ¬ l.has d → d ≠ c9 → H7 d = H6 d) →
      ∃ h1, Sub h1 (upd (upd (upd H7 c9 ⟨outC R Pc dn wh xn, 0⟩) l.p ⟨cpuC { pc := Pc, regs := rgOf R, f := c.f, tick := c.tick + BitVec.ofInt 64 dn, ret := c.ret + BitVec.ofInt 64 dn, bus := c.bus, ev := c.ev } l.bus v, 0⟩) c6 ⟨outC R Pc dn wh xn, 0⟩) ∧
        MachAt h1 l { pc := Pc, regs := rgOf R, f := c.f, tick := c.tick + BitVec.ofInt 64 dn, ret := c.ret + BitVec.ofInt 64 dn, bus := { b := M'.b, c := c.bus.c, t := c.bus.t, off := c.bus.off, code := c.bus.code }, ev := c.ev } M' ∧ ∀ d, ¬ l.has d → h1 d = H d := by
    intro H7 c9 hm7 hp7 h69 ho79
    have hat : ∀ d, l.has d → d ≠ c9 ∧ d ≠ c6 := fun d hd => by
      obtain ⟨x, hx⟩ := hm.at hd
      exact ⟨fun e => (by have := s6 _ _ hx; rw [e, h69] at this; cases this), fun e => (by rw [e, hc6] at hx; cases hx)⟩
    have k1 : MachAt (upd H7 c9 ⟨outC R Pc dn wh xn, 0⟩) l { c with bus := { c.bus with b := M'.b } } M' := hm7.same fun d hd => upd_ne (hat d hd).1
    have hlp : l.has l.p := by simp [Plc.has, Plc.l]
    have k2 := k1.setC (c' := { pc := Pc, regs := rgOf R, f := c.f, tick := c.tick + BitVec.ofInt 64 dn, ret := c.ret + BitVec.ofInt 64 dn, bus := { b := M'.b, c := c.bus.c, t := c.bus.t, off := c.bus.off, code := c.bus.code }, ev := c.ev }) (v := v) (by rw [upd_ne (hat _ hlp).1]; exact hp7) rfl rfl
    refine mach_cut (k2.same fun d hd => upd_ne (hat d hd).2) fun d hd hn => ?_
    obtain ⟨x, hx⟩ : ∃ x, H d = some x := by
      cases h : H d with
      | none => exact absurd h hd
      | some x => exact ⟨x, rfl⟩
    have hx6 := s6 _ _ hx
    rw [upd_ne (fun e => by rw [e, hc6] at hx; cases hx), upd_ne (fun e => hn (by rw [e]; exact hlp)), upd_ne (fun e => by rw [e, h69] at hx6; cases hx6), ho79 d hn (fun e => by rw [e, h69] at hx6; cases hx6), hx6, hx]
  refine ha.to ?_
  simp only [push_cast, simprocAttr, hp6]
  refine ⟨(cBus_spec (G := G) hm6).to ?_, fun c9 hc9 => ?_⟩
  · simp only [push_cast, simprocAttr, hp6]
    refine ⟨(bRam_spec (G := G) hm6).to ?_, fun c9 hc9 => ?_⟩
    · simp only [push_cast, simprocAttr, hp6]
      refine ⟨(hD _ hm6.hr).mono ?_, fun c9 hc9 => ?_⟩
      · rintro _ H7 ⟨rfl, hr7, ho7⟩
        have hm7 := hm6.setR hr7 ho7
        have m67 : H7 c6 = some ⟨[.int .u32 0, .int .u32 0, .int .u32 0, .int .u32 0, .int .u32 0, .int .u32 0, .int .u32 0, .int .u32 0, .int .u32 0, .int .u32 0, .int .u32 0, .int .u32 0, .int .u32 0, .int .u32 0, .int .u32 0, .int .u32 0, .int .u32 0, .int .u32 0, .int .u32 0, .int .u32 0, .int .u32 0, .int .u32 0, .int .u32 0, .int .u32 0, .int .u32 0, .int .u32 0, .int .u32 0, .int .u32 0, .int .u32 0, .int .u32 0, .int .u32 0, .int .u32 0, .int .u32 0, .int .i64 0, .int .i64 0, .int .i64 0], 0⟩ := by rw [ho7 _ (hm.hr.not hc6)]; exact m6
        have hp7 : H7 l.p = some ⟨cpuC c l.bus v, 0⟩ := by rw [ho7 _ hpr]; exact hp6
        simp only [push_cast, simprocAttr]
        intro c9 hc9
        have h69 : H6 c9 = none := by rw [← ho7 _ (hr7.not hc9)]; exact hc9
        have ho79 : ∀ d, ¬ l.has d → d ≠ c9 → H7 d = H6 d := fun d hd _ => ho7 d fun e => hd (hasR d e)
        have hne : c9 ≠ l.p := fun e => by rw [e] at h69; rw [h69] at hp6; cases hp6
        have n96 : c6 ≠ c9 := fun e => by rw [e, h69] at m6; cases m6
        have n6p : c6 ≠ l.p := fun e => by rw [e, hcp] at hc6; cases hc6
        have q9 : ∀ X, upd H7 c9 X c9 = some X := fun X => upd_same _ _ _
        have hP7 : ∀ X, upd H7 c9 X l.p = some ⟨cpuC c l.bus v, 0⟩ := fun X => by rw [upd_ne (Ne.symm hne)]; exact hp7
        have q99 : ∀ X Y, upd (upd H7 c9 X) l.p Y c9 = some X := fun X Y => by rw [upd_ne hne]; exact upd_same _ _ _
        have q66 : ∀ X Y, upd (upd H7 c9 X) l.p Y c6 = some ⟨[.int .u32 0, .int .u32 0, .int .u32 0, .int .u32 0, .int .u32 0, .int .u32 0, .int .u32 0, .int .u32 0, .int .u32 0, .int .u32 0, .int .u32 0, .int .u32 0, .int .u32 0, .int .u32 0, .int .u32 0, .int .u32 0, .int .u32 0, .int .u32 0, .int .u32 0, .int .u32 0, .int .u32 0, .int .u32 0, .int .u32 0, .int .u32 0, .int .u32 0, .int .u32 0, .int .u32 0, .int .u32 0, .int .u32 0, .int .u32 0, .int .u32 0, .int .u32 0, .int .u32 0, .int .i64 0, .int .i64 0, .int .i64 0], 0⟩ := fun X Y => by rw [upd_ne n6p, upd_ne n96]; exact m67
        simp only [push_cast, simprocAttr, q9, oc_put36 hR, oc_all hR, oc_len hR, hP7]
        simp only [push_cast, simprocAttr, outC_regs hR, cpb_copy c l.bus v hR hR0, q99, q66, (oc_at hR).1, (oc_at hR).2.1, oc_all hR, oc_len hR, oc_put36 hR]
        exact fin H7 c9 hm7 hp7 h69 ho79
      · have hp3 := fun X => hP c9 X hc9
        simp only [push_cast, simprocAttr, hp3]
        refine (hD _ (hU c9 _ hc9).hr).mono ?_
        rintro _ H7 ⟨rfl, hr7, ho7⟩
        have h69 := hc9
        have n9r : ¬ l.ram.has c9 := hm6.hr.not hc9
        have hm7 := (hU c9 _ hc9).setR hr7 ho7
        have m67 : H7 c6 = some ⟨[.int .u32 0, .int .u32 0, .int .u32 0, .int .u32 0, .int .u32 0, .int .u32 0, .int .u32 0, .int .u32 0, .int .u32 0, .int .u32 0, .int .u32 0, .int .u32 0, .int .u32 0, .int .u32 0, .int .u32 0, .int .u32 0, .int .u32 0, .int .u32 0, .int .u32 0, .int .u32 0, .int .u32 0, .int .u32 0, .int .u32 0, .int .u32 0, .int .u32 0, .int .u32 0, .int .u32 0, .int .u32 0, .int .u32 0, .int .u32 0, .int .u32 0, .int .u32 0, .int .u32 0, .int .i64 0, .int .i64 0, .int .i64 0], 0⟩ := by rw [ho7 _ (hm.hr.not hc6), upd_ne (fun e => by rw [e, hc9] at m6; cases m6)]; exact m6
        have hp7 : H7 l.p = some ⟨cpuC c l.bus v, 0⟩ := by rw [ho7 _ hpr]; exact hP c9 _ hc9
        have m79 : H7 c9 = some ⟨[.int .u32 0, .int .u32 0, .int .u32 0, .int .u32 0, .int .u32 0, .int .u32 0, .int .u32 0, .int .u32 0, .int .u32 0, .int .u32 0, .int .u32 0, .int .u32 0, .int .u32 0, .int .u32 0, .int .u32 0, .int .u32 0, .int .u32 0, .int .u32 0, .int .u32 0, .int .u32 0, .int .u32 0, .int .u32 0, .int .u32 0, .int .u32 0, .int .u32 0, .int .u32 0, .int .u32 0, .int .u32 0, .int .u32 0, .int .u32 0, .int .u32 0, .int .u32 0, .int .u32 0, .int .i64 0, .int .i64 0, .int .i64 0], 0⟩ := by rw [ho7 _ n9r]; exact upd_same _ _ _
        have ho79 : ∀ d, ¬ l.has d → d ≠ c9 → H7 d = H6 d := fun d hd h9 => by rw [ho7 d (fun e => hd (hasR d e)), upd_ne h9]
        have hne : c9 ≠ l.p := fun e => by rw [e] at h69; rw [h69] at hp6; cases hp6
        have n96 : c6 ≠ c9 := fun e => by rw [e, h69] at m6; cases m6
        have n6p : c6 ≠ l.p := fun e => by rw [e, hcp] at hc6; cases hc6
        have q9 : ∀ X, upd H7 c9 X c9 = some X := fun X => upd_same _ _ _
        have hP7 : ∀ X, upd H7 c9 X l.p = some ⟨cpuC c l.bus v, 0⟩ := fun X => by rw [upd_ne (Ne.symm hne)]; exact hp7
        have q99 : ∀ X Y, upd (upd H7 c9 X) l.p Y c9 = some X := fun X Y => by rw [upd_ne hne]; exact upd_same _ _ _
        have q66 : ∀ X Y, upd (upd H7 c9 X) l.p Y c6 = some ⟨[.int .u32 0, .int .u32 0, .int .u32 0, .int .u32 0, .int .u32 0, .int .u32 0, .int .u32 0, .int .u32 0, .int .u32 0, .int .u32 0, .int .u32 0, .int .u32 0, .int .u32 0, .int .u32 0, .int .u32 0, .int .u32 0, .int .u32 0, .int .u32 0, .int .u32 0, .int .u32 0, .int .u32 0, .int .u32 0, .int .u32 0, .int .u32 0, .int .u32 0, .int .u32 0, .int .u32 0, .int .u32 0, .int .u32 0, .int .u32 0, .int .u32 0, .int .u32 0, .int .u32 0, .int .i64 0, .int .i64 0, .int .i64 0], 0⟩ := fun X Y => by rw [upd_ne n6p, upd_ne n96]; exact m67
        simp only [push_cast, simprocAttr, m79, q9, oc_put36 hR, oc_all hR, oc_len hR, hP7]
        simp only [push_cast, simprocAttr, outC_regs hR, cpb_copy c l.bus v hR hR0, q99, q66, (oc_at hR).1, (oc_at hR).2.1, oc_all hR, oc_len hR, oc_put36 hR]
        exact fin H7 c9 hm7 hp7 h69 ho79
    · have hp3 := fun X => hP c9 X hc9
      simp only [push_cast, simprocAttr, hp3]
      refine (bRam_spec (G := G) (hU c9 _ hc9)).to ?_
      simp only [push_cast, simprocAttr, hp3]
      refine (hD _ (hU c9 _ hc9).hr).mono ?_
      rintro _ H7 ⟨rfl, hr7, ho7⟩
      have h69 := hc9
      have n9r : ¬ l.ram.has c9 := hm6.hr.not hc9
      have hm7 := (hU c9 _ hc9).setR hr7 ho7
      have m67 : H7 c6 = some ⟨[.int .u32 0, .int .u32 0, .int .u32 0, .int .u32 0, .int .u32 0, .int .u32 0, .int .u32 0, .int .u32 0, .int .u32 0, .int .u32 0, .int .u32 0, .int .u32 0, .int .u32 0, .int .u32 0, .int .u32 0, .int .u32 0, .int .u32 0, .int .u32 0, .int .u32 0, .int .u32 0, .int .u32 0, .int .u32 0, .int .u32 0, .int .u32 0, .int .u32 0, .int .u32 0, .int .u32 0, .int .u32 0, .int .u32 0, .int .u32 0, .int .u32 0, .int .u32 0, .int .u32 0, .int .i64 0, .int .i64 0, .int .i64 0], 0⟩ := by rw [ho7 _ (hm.hr.not hc6), upd_ne (fun e => by rw [e, hc9] at m6; cases m6)]; exact m6
      have hp7 : H7 l.p = some ⟨cpuC c l.bus v, 0⟩ := by rw [ho7 _ hpr]; exact hP c9 _ hc9
      have m79 : H7 c9 = some ⟨[.int .u32 0, .int .u32 0, .int .u32 0, .int .u32 0, .int .u32 0, .int .u32 0, .int .u32 0, .int .u32 0, .int .u32 0, .int .u32 0, .int .u32 0, .int .u32 0, .int .u32 0, .int .u32 0, .int .u32 0, .int .u32 0, .int .u32 0, .int .u32 0, .int .u32 0, .int .u32 0, .int .u32 0, .int .u32 0, .int .u32 0, .int .u32 0, .int .u32 0, .int .u32 0, .int .u32 0, .int .u32 0, .int .u32 0, .int .u32 0, .int .u32 0, .int .u32 0, .int .u32 0, .int .i64 0, .int .i64 0, .int .i64 0], 0⟩ := by rw [ho7 _ n9r]; exact upd_same _ _ _
      have ho79 : ∀ d, ¬ l.has d → d ≠ c9 → H7 d = H6 d := fun d hd h9 => by rw [ho7 d (fun e => hd (hasR d e)), upd_ne h9]
      have hne : c9 ≠ l.p := fun e => by rw [e] at h69; rw [h69] at hp6; cases hp6
      have n96 : c6 ≠ c9 := fun e => by rw [e, h69] at m6; cases m6
      have n6p : c6 ≠ l.p := fun e => by rw [e, hcp] at hc6; cases hc6
      have q9 : ∀ X, upd H7 c9 X c9 = some X := fun X => upd_same _ _ _
      have hP7 : ∀ X, upd H7 c9 X l.p = some ⟨cpuC c l.bus v, 0⟩ := fun X => by rw [upd_ne (Ne.symm hne)]; exact hp7
      have q99 : ∀ X Y, upd (upd H7 c9 X) l.p Y c9 = some X := fun X Y => by rw [upd_ne hne]; exact upd_same _ _ _
      have q66 : ∀ X Y, upd (upd H7 c9 X) l.p Y c6 = some ⟨[.int .u32 0, .int .u32 0, .int .u32 0, .int .u32 0, .int .u32 0, .int .u32 0, .int .u32 0, .int .u32 0, .int .u32 0, .int .u32 0, .int .u32 0, .int .u32 0, .int .u32 0, .int .u32 0, .int .u32 0, .int .u32 0, .int .u32 0, .int .u32 0, .int .u32 0, .int .u32 0, .int .u32 0, .int .u32 0, .int .u32 0, .int .u32 0, .int .u32 0, .int .u32 0, .int .u32 0, .int .u32 0, .int .u32 0, .int .u32 0, .int .u32 0, .int .u32 0, .int .u32 0, .int .i64 0, .int .i64 0, .int .i64 0], 0⟩ := fun X Y => by rw [upd_ne n6p, upd_ne n96]; exact m67
      simp only [push_cast, simprocAttr, m79, q9, oc_put36 hR, oc_all hR, oc_len hR, hP7]
      simp only [push_cast, simprocAttr, outC_regs hR, cpb_copy c l.bus v hR hR0, q99, q66, (oc_at hR).1, (oc_at hR).2.1, oc_all hR, oc_len hR, oc_put36 hR]
      exact fin H7 c9 hm7 hp7 h69 ho79
  · have hp3 := fun X => hP c9 X hc9
    simp only [push_cast, simprocAttr, hp3]
    refine (cBus_spec (G := G) (hU c9 _ hc9)).to ?_
    simp only [push_cast, simprocAttr, hp3]
    refine (bRam_spec (G := G) (hU c9 _ hc9)).to ?_
    simp only [push_cast, simprocAttr, hp3]
    refine (hD _ (hU c9 _ hc9).hr).mono ?_
    rintro _ H7 ⟨rfl, hr7, ho7⟩
    have h69 := hc9
    have n9r : ¬ l.ram.has c9 := hm6.hr.not hc9
    have hm7 := (hU c9 _ hc9).setR hr7 ho7
    have m67 : H7 c6 = some ⟨[.int .u32 0, .int .u32 0, .int .u32 0, .int .u32 0, .int .u32 0, .int .u32 0, .int .u32 0, .int .u32 0, .int .u32 0, .int .u32 0, .int .u32 0, .int .u32 0, .int .u32 0, .int .u32 0, .int .u32 0, .int .u32 0, .int .u32 0, .int .u32 0, .int .u32 0, .int .u32 0, .int .u32 0, .int .u32 0, .int .u32 0, .int .u32 0, .int .u32 0, .int .u32 0, .int .u32 0, .int .u32 0, .int .u32 0, .int .u32 0, .int .u32 0, .int .u32 0, .int .u32 0, .int .i64 0, .int .i64 0, .int .i64 0], 0⟩ := by rw [ho7 _ (hm.hr.not hc6), upd_ne (fun e => by rw [e, hc9] at m6; cases m6)]; exact m6
    have hp7 : H7 l.p = some ⟨cpuC c l.bus v, 0⟩ := by rw [ho7 _ hpr]; exact hP c9 _ hc9
    have m79 : H7 c9 = some ⟨[.int .u32 0, .int .u32 0, .int .u32 0, .int .u32 0, .int .u32 0, .int .u32 0, .int .u32 0, .int .u32 0, .int .u32 0, .int .u32 0, .int .u32 0, .int .u32 0, .int .u32 0, .int .u32 0, .int .u32 0, .int .u32 0, .int .u32 0, .int .u32 0, .int .u32 0, .int .u32 0, .int .u32 0, .int .u32 0, .int .u32 0, .int .u32 0, .int .u32 0, .int .u32 0, .int .u32 0, .int .u32 0, .int .u32 0, .int .u32 0, .int .u32 0, .int .u32 0, .int .u32 0, .int .i64 0, .int .i64 0, .int .i64 0], 0⟩ := by rw [ho7 _ n9r]; exact upd_same _ _ _
    have ho79 : ∀ d, ¬ l.has d → d ≠ c9 → H7 d = H6 d := fun d hd h9 => by rw [ho7 d (fun e => hd (hasR d e)), upd_ne h9]
    have hne : c9 ≠ l.p := fun e => by rw [e] at h69; rw [h69] at hp6; cases hp6
    have n96 : c6 ≠ c9 := fun e => by rw [e, h69] at m6; cases m6
    have n6p : c6 ≠ l.p := fun e => by rw [e, hcp] at hc6; cases hc6
    have q9 : ∀ X, upd H7 c9 X c9 = some X := fun X => upd_same _ _ _
    have hP7 : ∀ X, upd H7 c9 X l.p = some ⟨cpuC c l.bus v, 0⟩ := fun X => by rw [upd_ne (Ne.symm hne)]; exact hp7
    have q99 : ∀ X Y, upd (upd H7 c9 X) l.p Y c9 = some X := fun X Y => by rw [upd_ne hne]; exact upd_same _ _ _
    have q66 : ∀ X Y, upd (upd H7 c9 X) l.p Y c6 = some ⟨[.int .u32 0, .int .u32 0, .int .u32 0, .int .u32 0, .int .u32 0, .int .u32 0, .int .u32 0, .int .u32 0, .int .u32 0, .int .u32 0, .int .u32 0, .int .u32 0, .int .u32 0, .int .u32 0, .int .u32 0, .int .u32 0, .int .u32 0, .int .u32 0, .int .u32 0, .int .u32 0, .int .u32 0, .int .u32 0, .int .u32 0, .int .u32 0, .int .u32 0, .int .u32 0, .int .u32 0, .int .u32 0, .int .u32 0, .int .u32 0, .int .u32 0, .int .u32 0, .int .u32 0, .int .i64 0, .int .i64 0, .int .i64 0], 0⟩ := fun X Y => by rw [upd_ne n6p, upd_ne n96]; exact m67
    simp only [push_cast, simprocAttr, m79, q9, oc_put36 hR, oc_all hR, oc_len hR, hP7]
    simp only [push_cast, simprocAttr, outC_regs hR, cpb_copy c l.bus v hR hR0, q99, q66, (oc_at hR).1, (oc_at hR).2.1, oc_all hR, oc_len hR, oc_put36 hR]
    exact fin H7 c9 hm7 hp7 h69 ho79
end
end Go.Ab
end
section
/- The document's memory: stored. -/
set_option linter.unusedSimpArgs false
set_option linter.unusedVariables false
set_option maxRecDepth 10000
namespace Go.Ab
open Go.Proofs
variable {G : Glo} {h : Heap}
/-- Blocks of one's own that lie beside what was there. -/
structure Bag (h H : Heap) (l : List (Nat × Blk)) : Prop where
  get : ∀ p ∈ l, H p.1 = some p.2
  new : ∀ p ∈ l, h p.1 = none
  nd : (l.map (·.1)).Nodup
  sub : Sub h H
theorem Bag.start (h : Heap) : Bag h h [] := ⟨fun p q => (by cases q), fun p q => (by cases q), by simp, Sub.refl h⟩
theorem Bag.alloc {h H : Heap} {l : List (Nat × Blk)} {b : Nat} (x : Blk) (hB : Bag h H l) (hb : H b = none) : Bag h (upd H b x) ((b, x) :: l) := by
  have hne : ∀ p ∈ l, p.1 ≠ b := fun p hp e => by rw [← e, hB.get p hp] at hb; cases hb
  refine ⟨fun p hp => ?_, fun p hp => ?_, ?_, hB.sub.alloc hb⟩
  · rcases List.mem_cons.1 hp with rfl | hp
    · exact upd_same _ _ _
    · rw [upd_ne (hne p hp)]; exact hB.get p hp
  · rcases List.mem_cons.1 hp with rfl | hp
    · exact hB.sub.none hb
    · exact hB.new p hp
  · simp only [List.map_cons, List.nodup_cons]
    refine ⟨fun q => ?_, hB.nd⟩
    obtain ⟨p, hp, e⟩ := List.mem_map.1 q
    exact hne p hp e
/-- A row moved, asz an append does. -/
theorem Bag.app {h H : Heap} {l r : List (Nat × Blk)} {b b' : Nat} {x : Blk} (y : Blk) (hB : Bag h H l) (hp : l.Perm ((b, x) :: r)) (hb : b' = b ∨ H b' = none) : Bag h (upd (era H b) b' y) ((b', y) :: r) := by
  have hnd : (((b, x) :: r).map (·.1)).Nodup := (hp.map _).nodup_iff.1 hB.nd
  simp only [List.map_cons, List.nodup_cons] at hnd
  have hbr : ∀ p ∈ r, p.1 ≠ b := fun p hp e => hnd.1 (e ▸ List.mem_map_of_mem hp)
  have hg : ∀ p ∈ r, H p.1 = some p.2 := fun p q => hB.get p (hp.mem_iff.2 (List.mem_cons_of_mem _ q))
  have hn : ∀ p ∈ r, h p.1 = none := fun p q => hB.new p (hp.mem_iff.2 (List.mem_cons_of_mem _ q))
  have hbn : h b = none := hB.new (b, x) (hp.mem_iff.2 (by simp))
  have hb'n : h b' = none := by
    rcases hb with rfl | q
    · exact hbn
    · exact hB.sub.none q
  have hne : ∀ p ∈ r, p.1 ≠ b' := fun p q e => by
    rcases hb with rfl | hb
    · exact hbr p q e
    · rw [← e, hg p q] at hb; cases hb
  refine ⟨fun p q => ?_, fun p q => ?_, ?_, fun c z hc => ?_⟩
  · rcases List.mem_cons.1 q with rfl | q
    · exact upd_same _ _ _
    · rw [upd_ne (hne p q), era, if_neg (hbr p q)]; exact hg p q
  · rcases List.mem_cons.1 q with rfl | q
    · exact hb'n
    · exact hn p q
  · simp only [List.map_cons, List.nodup_cons]
    refine ⟨fun q => ?_, hnd.2⟩
    obtain ⟨p, hp, e⟩ := List.mem_map.1 q
    exact hne p hp e
  · have h1 : c ≠ b := fun e => by rw [e, hbn] at hc; cases hc
    have h2 : c ≠ b' := fun e => by rw [e, hb'n] at hc; cases hc
    rw [upd_ne h2, era, if_neg h1]
    exact hB.sub c z hc
theorem Bag.perm {h H : Heap} {l r : List (Nat × Blk)} (hB : Bag h H l) (hp : l.Perm r) : Bag h H r :=
  ⟨fun p q => hB.get p (hp.mem_iff.2 q), fun p q => hB.new p (hp.mem_iff.2 q), (hp.map _).nodup_iff.1 hB.nd, hB.sub⟩
/-- A block written. -/
theorem Bag.set {h H : Heap} {r : List (Nat × Blk)} {b : Nat} {x : Blk} (y : Blk) (hB : Bag h H ((b, x) :: r)) : Bag h (upd H b y) ((b, y) :: r) := by
  have hnd := hB.nd
  simp only [List.map_cons, List.nodup_cons] at hnd
  refine ⟨fun p q => ?_, fun p q => ?_, hB.nd, hB.sub.set (hB.new (b, x) (by simp))⟩
  · rcases List.mem_cons.1 q with rfl | q
    · exact upd_same _ _ _
    · have hpb : p.1 ≠ b := fun e => hnd.1 (by rw [← e]; exact List.mem_map_of_mem q)
      rw [upd_ne hpb]; exact hB.get p (List.mem_cons_of_mem _ q)
  · rcases List.mem_cons.1 q with rfl | q
    · exact hB.new (b, x) (by simp)
    · exact hB.new p (List.mem_cons_of_mem _ q)
/-- A row that is made by an append to an empty one. -/
theorem appQ_new {sz bytes m : Nat} {cs : List AV} {h H : Heap} {l r : List (Nat × Blk)} {b : Nat} {Q : AV → Heap → Prop} (hB : Bag h H l) (hp : l.Perm ((b, ⟨[], 0⟩) :: r)) (hm : m * bytes ≤ 140737488355328) (hm2 : m ≤ 9223372036854775807)
    (hq : ∀ b' pre cap sp H', Bag h H' ((b', ⟨pre ++ cs, sp⟩) :: r) → Q (.sl b' pre.length m cap) H') : appQ sz bytes m cs (.sl b 0 0 0) H Q := by
  have hb : H b = some ⟨[], 0⟩ := hB.get (b, ⟨[], 0⟩) (hp.mem_iff.2 (by simp))
  simp only [appQ, hb]
  refine ⟨by simp, by simp, by simpa using hm, by simpa using hm2, fun b' pre cap sp hb' _ => ?_⟩
  have := hq b' pre cap sp _ (hB.app ⟨pre ++ cs, sp⟩ hp hb')
  simpa using this
theorem Bag.at {h H : Heap} {l : List (Nat × Blk)} {b : Nat} {x : Blk} (hB : Bag h H l) (hm : (b, x) ∈ l) : H b = some x := hB.get (b, x) hm
theorem ex_upd {h H : Heap} {l : List (Nat × Blk)} {b : Nat} (hb : H b = none) (x : Blk) (hB : Bag h H l) : ∃ H', upd H b x = H' ∧ Bag h H' ((b, x) :: l) := ⟨_, rfl, hB.alloc x hb⟩
theorem Le.aggp {h : Heap} {b n cap i : Nat} {pre cells : List AV} {L : List AV} {sp : Nat} (hi : L[i]? = some (.sl b pre.length n cap)) (hb : h b = some ⟨pre ++ cells, sp⟩) (h0 : n = 0 → cells = []) : Le (.agg L) h (.agg (L.set i (.ro cells n))) (del h b) := by
  have hd : del h b b = none := by simp [del_at]
  rw [upd_del hb]
  have e2 : del (upd (del h b) b ⟨pre ++ cells, sp⟩) b = del h b := by rw [← upd_del hb]
  rw [e2]
  intro w v hw hr
  obtain ⟨cs, rfl, hl, h1, hr1⟩ := rep_agg hr
  have hsub : Sub (del h b) (upd (del h b) b ⟨pre ++ cells, sp⟩) := (Sub.refl _).alloc hd
  obtain ⟨l1, _⟩ := hrep_less hw hsub
  have hk : Keeps w (upd (del h b) b ⟨pre ++ cells, sp⟩).dom w (del h b).dom := ⟨Nat.le_refl _, fun c _ hn => ⟨fun hd => hn fun e => hd (hsub.none e), rfl⟩, fun _ h => h⟩
  refine ⟨l1, .agg _ _ (by simpa using hl) h1 fun j u c e1 e2 => ?_, fun c hc => hsub.none hc⟩
  rw [List.getElem?_set] at e1
  split at e1
  · rename_i hij
    subst hij
    split at e1
    · cases e1
      exact (Le.freeze hd h0 w c hw (hr1 i _ c hi e2)).2.1
    · cases e1
  · exact (hr1 j u c e1 e2).keep hk
theorem Le.tupb {r r' : AV} {h h' : Heap} {x : Bool} (hl : Le r h r' h') : Le (.tup [r, .bool x]) h (.tup [r', .bool x]) h' := by
  intro w v hw hr
  obtain ⟨cs, rfl, hl1, hr1⟩ := rep_tup hr
  obtain ⟨a, b, rfl⟩ : ∃ a b, cs = #[a, b] := by
    match cs, hl1 with
    | ⟨[a, b]⟩, _ => exact ⟨a, b, rfl⟩
  obtain ⟨x1, x2, x3⟩ := hl w a hw (hr1 0 r a rfl rfl)
  refine ⟨x1, .tup _ _ rfl fun i u c h1 h2 => ?_, x3⟩
  match i with
  | 0 => simp at h1 h2; subst h1; subst h2; exact x2
  | 1 =>
    simp at h1 h2; subst h1; subst h2
    have := hr1 1 (.bool x) b rfl rfl
    rw [rep_bool this]; exact .bool _
  | i + 2 => simp at h1
section
variable {M : IRam}
/-- A memory in rows of one's own. -/
def OwnR (h : Heap) (M : IRam) (r : AV) (F : Heap) : Prop := ∃ bw pw cw sw bg pg cg sg, r = .agg [byt M.b, .sl bw (List.length pw) M.w.length cw, .sl bg (List.length pg) M.g.length cg] ∧ F bw = some ⟨pw ++ bos M.w, sw⟩ ∧ F bg = some ⟨pg ++ qws M.g, sg⟩ ∧ bw ≠ bg ∧
  (h bw = none ∧ h bg = none) ∧ Sub h F
theorem OwnR.le {r : AV} {F : Heap} (ho : OwnR h M r F) : Le r F (ramV M) h := by
  obtain ⟨bw, pw, cw, sw, bg, pg, cg, sg, rfl, h1, h2, hne, ⟨h4, h5⟩, h6⟩ := ho
  have e1 := Le.aggp (i := 1) (L := [byt M.b, .sl bw (List.length pw) M.w.length cw, .sl bg (List.length pg) M.g.length cg]) rfl h1 (fun e => by simp [bos, List.length_eq_zero_iff.1 e])
  have e2 := Le.aggp (h := del F bw) (i := 2) (L := [byt M.b, .ro (bos M.w) M.w.length, .sl bg (List.length pg) M.g.length cg]) rfl (sp := sg) (by rw [del_ne (Ne.symm hne)]; exact h2) (fun e => by simp [qws, List.length_eq_zero_iff.1 e])
  refine le_trans e1 (le_trans e2 (Le.less fun c x hc => ?_))
  rw [del_ne (fun e => by rw [e, h5] at hc; cases hc), del_ne (fun e => by rw [e, h4] at hc; cases hc)]
  exact h6 c x hc
theorem row_b (pre : List AV) (l : List Bool) (i : Nat) (hi : i < l.length) : (pre ++ bos l)[pre.length + i]? = some (.bool (l.getD i false)) := by
  rw [List.getElem?_append_right (by omega), Nat.add_sub_cancel_left, bos_get, if_pos hi]
theorem row_q (pre : List AV) (l : List (BitVec 64)) (i : Nat) (hi : i < l.length) : (pre ++ qws l)[pre.length + i]? = some (.int .u64 ((l.getD i 0#64).toNat : Int)) := by
  rw [List.getElem?_append_right (by omega), Nat.add_sub_cancel_left, qws_get, if_pos hi]
theorem rset_b (pre : List AV) (l : List Bool) (i : Nat) (x : Bool) : (pre ++ bos l).set (pre.length + i) (.bool x) = pre ++ bos (l.set i x) := by
  rw [List.set_append_right _ _ (by omega), Nat.add_sub_cancel_left, bos_set]
theorem rset_q (pre : List AV) (l : List (BitVec 64)) (i : Nat) (x : BitVec 64) : (pre ++ qws l).set (pre.length + i) (.int .u64 (x.toNat : Int)) = pre ++ qws (l.set i x) := by
  rw [List.set_append_right _ _ (by omega), Nat.add_sub_cancel_left, qws_set]
/-- What holds between the operations of Store's first row, whichever have been done. -/
structure SI (h : Heap) (M : IRam) (addr w : BitVec 32) (n : Nat) (B : List (BitVec 8)) (c8 b19 bw cw sw b23 bg cg sg c10 : Nat) (pw pg : List AV) (pre : List Nat) (ρ : Env) (H : Heap) : Prop where
  k1 : lk ρ 1 = .int .u32 addr.toNat
  k8 : lk ρ 8 = .ptr c8 0
  k12 : lk ρ 12 = .cp M.cells 0
  k13 : lk ρ 13 = byt M.b
  k14 : lk ρ 14 = .int .u32 addr.toNat
  k15 : lk ρ 15 = .int .u32 w.toNat
  k16 : lk ρ 16 = .int .i64 n
  k4 : lk ρ 4 = .cp M.cells 0
  k2 : lk ρ 2 = .int .i64 n
  k3 : lk ρ 3 = .int .u32 w.toNat
  k20 : lk ρ 20 = .cp M.cells 1
  k21 : lk ρ 21 = .ro (bos M.w) M.w.length
  k24 : lk ρ 24 = .cp M.cells 2
  k25 : lk ρ 25 = .ro (qws M.g) M.g.length
  f5 : 5 ∈ pre → lk ρ 17 = byt (leB w n)
  f6 : 6 ∈ pre → lk ρ 18 = byt B
  f7 : 7 ∈ pre → lk ρ 19 = .sl b19 0 0 0
  f10 : 10 ∈ pre → lk ρ 22 = .sl bw (List.length pw) M.w.length cw
  f11 : 11 ∈ pre → lk ρ 23 = .sl b23 0 0 0
  f14 : 14 ∈ pre → lk ρ 26 = .sl bg (List.length pg) M.g.length cg
  f15 : 15 ∈ pre → lk ρ 27 = .agg [byt B, .sl bw (List.length pw) M.w.length cw, .sl bg (List.length pg) M.g.length cg]
  f16 : 16 ∈ pre → lk ρ 10 = .ptr c10 0
  d10 : 10 ∈ pre → 7 ∈ pre
  d14 : 14 ∈ pre → 11 ∈ pre
  d15 : 15 ∈ pre → 6 ∈ pre ∧ 10 ∈ pre ∧ 14 ∈ pre
  d17 : 17 ∈ pre → 15 ∈ pre ∧ 16 ∈ pre
  bag : Bag h H ((if 10 ∈ pre then [(bw, ⟨pw ++ bos M.w, sw⟩)] else if 7 ∈ pre then [(b19, ⟨[], 0⟩)] else []) ++ ((if 14 ∈ pre then [(bg, ⟨pg ++ qws M.g, sg⟩)] else if 11 ∈ pre then [(b23, ⟨[], 0⟩)] else []) ++
    ((if 17 ∈ pre then [(c10, ⟨[byt B, .sl bw (List.length pw) M.w.length cw, .sl bg (List.length pg) M.g.length cg], 0⟩)] else if 16 ∈ pre then [(c10, ⟨[.nils, .nils, .nils], 0⟩)] else []) ++ [(c8, ⟨[.nils, .nils, .nils], 0⟩)])))
end
end Go.Ab
end
section
/- The document's answer for a block, done: an exit, taken. -/
set_option linter.unusedSimpArgs false
set_option linter.unusedVariables false
set_option maxRecDepth 10000
namespace Go.Ab
open Go.Proofs
variable {G : Glo} {h : Heap}
def VV (H : Heap) (vv : AV) (vals : List (BitVec 32)) : Prop := ∃ c pre cap sp, vv = .sl c (List.length pre) vals.length cap ∧ H c = some ⟨pre ++ wds vals, sp⟩
def oT (regs : List (BitVec 32)) (pc : BitVec 32) (done why exit : Int) (T : List AV) : List AV := outC regs pc done why exit ++ T
section
variable {regs : List (BitVec 32)} {pc : BitVec 32} {done why exit : Int} {T : List AV}
theorem oT_len (hl : regs.length = 32) (ht : T.length = 3) : (oT regs pc done why exit T).length = 39 := by simp [oT, oc_len hl, ht]
theorem oT_z (hl : regs.length = 32) : splice [.int .u32 0, .int .u32 0, .int .u32 0, .int .u32 0, .int .u32 0, .int .u32 0, .int .u32 0, .int .u32 0, .int .u32 0, .int .u32 0, .int .u32 0, .int .u32 0, .int .u32 0, .int .u32 0, .int .u32 0, .int .u32 0, .int .u32 0, .int .u32 0, .int .u32 0, .int .u32 0, .int .u32 0, .int .u32 0, .int .u32 0, .int .u32 0, .int .u32 0, .int .u32 0, .int .u32 0, .int .u32 0, .int .u32 0, .int .u32 0, .int .u32 0, .int .u32 0, .int .u32 0, .int .i64 0, .int .i64 0, .int .i64 0, .nils, .nils, .nils] 0 (wds regs) = oT regs 0 0 0 0 [.nils, .nils, .nils] := by
  have hw : (wds regs).length = 32 := by simp [wds, hl]
  rw [splice_ne (by omega), List.take_zero, List.nil_append, Nat.zero_add, hw, oT, outC, List.append_assoc]
  rfl
theorem oT_set (hl : regs.length = 32) (i : Nat) (hi : i < 32) (w : BitVec 32) : (oT regs pc done why exit T).set i (.int .u32 w.toNat) = oT (regs.set i w) pc done why exit T := by
  rw [oT, List.set_append_left _ _ (by rw [oc_len hl]; omega), oc_set hl i hi]; rfl
theorem oT_32 (hl : regs.length = 32) (w : BitVec 32) : (oT regs pc done why exit T).set 32 (.int .u32 w.toNat) = oT regs w done why exit T := by
  rw [oT, List.set_append_left _ _ (by rw [oc_len hl]; omega), oc_pc hl]; rfl
theorem oT_33 (hl : regs.length = 32) (d : Int) : (oT regs pc done why exit T).set 33 (.int .i64 d) = oT regs pc d why exit T := by
  rw [oT, List.set_append_left _ _ (by rw [oc_len hl]; omega), oc_33 hl]; rfl
theorem oT_34 (hl : regs.length = 32) (d : Int) : (oT regs pc done why exit T).set 34 (.int .i64 d) = oT regs pc done d exit T := by
  rw [oT, List.set_append_left _ _ (by rw [oc_len hl]; omega), oc_34 hl]; rfl
theorem oT_35 (hl : regs.length = 32) (d : Int) : (oT regs pc done why exit T).set 35 (.int .i64 d) = oT regs pc done why d T := by
  rw [oT, List.set_append_left _ _ (by rw [oc_len hl]; omega), oc_35 hl]; rfl
theorem oT_36 (hl : regs.length = 32) (ht : T.length = 3) (U : List AV) (hu : U.length = 3) : splice (oT regs pc done why exit T) 36 U = oT regs pc done why exit U := by
  rw [splice_ne (by omega), oT, hu, List.take_append_of_le_length (by rw [oc_len hl]; omega), List.take_of_length_le (by rw [oc_len hl]; omega), List.drop_of_length_le (by simp [oc_len hl, ht])]
  simp [oT]
theorem oT_all (hl : regs.length = 32) (ht : T.length = 3) : partOf (oT regs pc done why exit T) 0 (some 39) = some (.agg (oT regs pc done why exit T)) := partOf_all (oT_len hl ht)
theorem oT_put (hl : regs.length = 32) (ht : T.length = 3) (Z : List AV) (hz : Z.length = 39) : splice Z 0 (oT regs pc done why exit T) = oT regs pc done why exit T := splice_all' (by rw [oT_len hl ht, hz])
theorem oT_put39 (hl : regs.length = 32) (ht : T.length = 3) : splice [.int .u32 0, .int .u32 0, .int .u32 0, .int .u32 0, .int .u32 0, .int .u32 0, .int .u32 0, .int .u32 0, .int .u32 0, .int .u32 0, .int .u32 0, .int .u32 0, .int .u32 0, .int .u32 0, .int .u32 0, .int .u32 0, .int .u32 0, .int .u32 0, .int .u32 0, .int .u32 0, .int .u32 0, .int .u32 0, .int .u32 0, .int .u32 0, .int .u32 0, .int .u32 0, .int .u32 0, .int .u32 0, .int .u32 0, .int .u32 0, .int .u32 0, .int .u32 0, .int .u32 0, .int .i64 0, .int .i64 0, .int .i64 0, .nils, .nils, .nils] 0 (oT regs pc done why exit T) = oT regs pc done why exit T := splice_all' (by rw [oT_len hl ht]; rfl)
end
def rOut (regs : List (BitVec 32)) (pc : BitVec 32) (done why exit : Int) (M : IRam) : List AV := oT regs pc done why exit M.cells
end Go.Ab
end
section
/- The document's answer for a block, done. -/
set_option linter.unusedSimpArgs false
set_option linter.unusedVariables false
set_option maxRecDepth 10000
namespace Go.Ab
open Go.Proofs
variable {G : Glo} {h : Heap}
/-- The values so far, in a row of one's own over other blocks. -/
def RowV (g : Heap) (vv : AV) (vals : List (BitVec 32)) (H : Heap) : Prop := ∃ c pre cap sp, vv = .sl c (List.length pre) vals.length cap ∧ g c = none ∧ cap ≤ vals.length + sp ∧ H = upd g c ⟨pre ++ wds vals, sp⟩
theorem RowV.vv {g H : Heap} {vv : AV} {vals : List (BitVec 32)} (hr : RowV g vv vals H) : VV H vv vals := by
  obtain ⟨c, pre, cap, sp, h1, h2, h3, rfl⟩ := hr
  exact ⟨c, pre, cap, sp, h1, upd_same _ _ _⟩
theorem RowV.app {g H : Heap} {vv : AV} {vals : List (BitVec 32)} (hr : RowV g vv vals H) (w : BitVec 32) (hn : vals.length ≤ 1000) {Q : AV → Heap → Prop} (hq : ∀ v' H', RowV g v' (vals ++ [w]) H' → Q v' H') : appQ 1 4 1 [.int .u32 w.toNat] vv H Q := by
  obtain ⟨c, pre, cap, sp, rfl, h2, h3, rfl⟩ := hr
  have ho : Own 1 g (.sl c pre.length vals.length cap) (wds vals) vals.length (upd g c ⟨pre ++ wds vals, sp⟩) := .row c vals.length cap pre (wds vals) sp h2 (by simp [wds]) (by omega)
  refine ho.app (m := 1) rfl (by omega) (by omega) fun v' h' ho2 => ?_
  have hX : wds vals ++ [AV.int .u32 w.toNat] = wds (vals ++ [w]) := by simp [wds]
  have hN : vals.length + 1 = (vals ++ [w]).length := by simp
  rw [hX, hN] at ho2
  generalize (vals ++ [w]) = U at ho2 hq hN
  generalize hU : wds U = X at ho2
  generalize hL : U.length = N at ho2
  cases ho2 with
  | nil => omega
  | row c' _ cap' pre' cells sp' hb hl hc => exact hq _ _ ⟨c', pre', cap', sp', by rw [hL], hb, by rw [hL]; simpa using hc, by rw [hU]⟩
theorem RowV.get {g H : Heap} {vv : AV} {vals : List (BitVec 32)} (hr : RowV g vv vals H) {b : Nat} {x : Blk} (hb : g b = some x) : H b = some x := by
  obtain ⟨c, pre, cap, sp, rfl, h2, h3, rfl⟩ := hr
  rw [upd_ne (fun e => by rw [e, h2] at hb; cases hb)]
  exact hb
theorem RowV.set {g H : Heap} {vv : AV} {vals : List (BitVec 32)} (hr : RowV g vv vals H) {b : Nat} {x : Blk} (y : Blk) (hb : g b = some x) : RowV (upd g b y) vv vals (upd H b y) := by
  obtain ⟨c, pre, cap, sp, rfl, h2, h3, rfl⟩ := hr
  have hne : c ≠ b := fun e => by rw [e, hb] at h2; cases h2
  exact ⟨c, pre, cap, sp, rfl, by rw [upd_ne hne]; exact h2, h3, upd_comm hne⟩
theorem RowV.sub {g H : Heap} {vv : AV} {vals : List (BitVec 32)} (hr : RowV g vv vals H) : Sub g H := by
  obtain ⟨c, pre, cap, sp, rfl, h2, h3, rfl⟩ := hr
  exact (Sub.refl g).alloc h2
theorem RowV.alloc {g H : Heap} {vv : AV} {vals : List (BitVec 32)} (hr : RowV g vv vals H) {b : Nat} (y : Blk) (hb : H b = none) : RowV (upd g b y) vv vals (upd H b y) := by
  obtain ⟨c, pre, cap, sp, rfl, h2, h3, rfl⟩ := hr
  have hne : c ≠ b := fun e => by rw [e, upd_same] at hb; cases hb
  exact ⟨c, pre, cap, sp, rfl, by rw [upd_ne hne]; exact h2, h3, upd_comm hne⟩
theorem foldR_app (vals : List (BitVec 32)) (w : BitVec 32) (m : List IVl) (regs : List (BitVec 32)) (hm : ∀ v ∈ m, 0 ≤ v.val ∧ v.val < vals.length) : foldR (vals ++ [w]) m regs = foldR vals m regs := by
  induction m generalizing regs with
  | nil => rfl
  | cons v r ih =>
    have e1 : ∀ u, foldR u (v :: r) regs = foldR u r (regs.set v.reg.toNat (lv u v.val)) := fun _ => rfl
    have hv := hm v (by simp)
    have e2 : lv (vals ++ [w]) v.val = lv vals v.val := by
      simp only [lv, List.getD_eq_getElem?_getD]
      rw [List.getElem?_append_left (by omega)]
    rw [e1, e1, e2]
    exact ih _ fun u hu => hm u (by simp [hu])
theorem leave_app {e : IEx} {vals : List (BitVec 32)} (he : okEx e vals.length) (w : BitVec 32) (regs : List (BitVec 32)) : leaveR e regs (vals ++ [w]) = leaveR e regs vals ∧ leaveP e (vals ++ [w]) = leaveP e vals := by
  refine ⟨foldR_app vals w e.map regs fun v hv => ?_, ?_⟩
  · obtain ⟨i, hi, rfl⟩ := List.getElem_of_mem hv
    have := he.1 i hi
    simp only [IEx.vl, List.getD_eq_getElem?_getD, List.getElem?_eq_getElem hi, Option.getD_some] at this
    exact this.1
  · unfold leaveP
    split
    · rfl
    · rename_i ht
      have := he.2.resolve_left ht
      simp only [lv, List.getD_eq_getElem?_getD]
      rw [List.getElem?_append_left (by omega)]
theorem store_wf {M : IRam} (hM : M.wf) {addr : BitVec 32} {n : Nat} {w : BitVec 32} (hz : askedN M.b.length addr n = 0) : (M.store addr n w).1.wf := by
  have hH : hasN M.b.length addr n = true := by unfold askedN at hz; split at hz; omega; split at hz; omega; split at hz; assumption; omega
  simp only [hasN, Bool.and_eq_true, decide_eq_true_eq] at hH
  obtain ⟨k, hk⟩ : ∃ k, addr.toNat - 2147483648 = k := ⟨_, rfl⟩
  have hl := put_len M k (leB w n) (by rw [leB_len]; omega)
  have hw : (M.put k (leB w n)).w = M.w := rfl
  have hg : (M.put k (leB w n)).g = M.g := rfl
  unfold IRam.store
  rw [hk]
  unfold IRam.wf at hM ⊢
  dsimp only
  split
  · simp only [List.length_set]; rw [hl, hw, hg]; exact hM
  · rw [hl, hw, hg]; exact hM
theorem step_wf {M : IRam} (hM : M.wf) (regs : List (BitVec 32)) (o : IOp) (vals : List (BitVec 32)) : (stepN regs o vals M).2.2.wf := by
  unfold stepN
  split
  · exact hM
  · split
    · split <;> exact hM
    · split
      · unfold storeX
        split
        · rename_i hE
          simp only [storeR]
          have hz := hE
          unfold storeE at hz
          obtain ⟨N, hN⟩ : ∃ N : Nat, storesN o.imm.toNat = N := ⟨(storesN o.imm.toNat).toNat, by unfold askedN at hz; split at hz <;> omega⟩
          rw [hN] at hz ⊢
          exact store_wf hM hz
        · exact hM
      · split
        · exact hM
        · split <;> exact hM
def rOutOf (b : IBk) (regs : List (BitVec 32)) (M : IRam) : List AV := b.outOf regs M ++ (b.ramOf regs M).cells
section
variable {M : IRam} {b : IBk} {regs : List (BitVec 32)}
end
end Go.Ab
end
section
/- May a block be done, and the machine behind it: the document's. -/
set_option linter.unusedSimpArgs false
set_option linter.unusedVariables false
set_option maxRecDepth 10000
namespace Go.Ab
open Go.Proofs
variable {G : Glo} {h : Heap}
def rMayN (c : ICpu) (b : IBk) (fuel : Int) : Bool := !c.bus.off && decide (b.pcs.getD 0 0#32 = c.pc) && decide ((b.pcs.length : Int) ≤ fuel) && allN b.pcs.length fun d => !heardAt c d
/-- The same of both. -/
theorem may_eq (c : ICpu) (b : IBk) (fuel : Int) (hc : b.check = 0) (hs : ∀ i, i < c.bus.c.l.length → riseN c.bus.c.l i = true) (ht : c.tick.toNat < 1152921504606846976) (ho : c.bus.t.off.toNat < 1152921504606846976) : mayN c b fuel = rMayN c b fuel := by
  obtain ⟨k1, k2, _⟩ := check_pcs hc
  have hq := quiet_iff c b.pcs.length k1 k2 hs ht ho
  rw [mayN, rMayN]
  congr 1
  rw [Bool.eq_iff_iff, decide_eq_true_eq, hq]
end Go.Ab
end
section
/- The laws of apply: what is small. -/
set_option linter.unusedSimpArgs false
set_option linter.unusedVariables false
set_option maxRecDepth 10000
namespace Go.Ab
open Go.Proofs
variable {G : Glo} {h : Heap}
def lightA (s : ISt) (b : IBk) : Bool := decide (s.size ≤ 1024) && decide (s.parts.length ≤ 30) && decide (s.input.length ≤ 256) && s.right && decide (b.pcs.length ≤ 100) && decide (b.ops.length ≤ 600) && decide (b.exits.length ≤ 200)
def lowA (s : ISt) : Bool := decide (s.tick.toNat < 1152921504606846976) && decide (s.t.off.toNat < 1152921504606846976)
def light25 (s : ISt) (b : IBk) : Bool := lightA s b && (allN b.exits.length fun i => decide ((b.exits.getD i IEx.zero).map.length ≤ 100)) && lowA s
theorem light25_spec (s : ISt) (b : IBk) (he : b.exits.length ≤ 9223372036854775807) (hp : ∀ p ∈ s.parts, p.b.length ≤ 9223372036854775807) : Spec Tryz.prog G 4 [.agg s.cells, .agg b.cells] h (Is (.bool (light25 s b)) h) := by
  have hL : light25 s b = (lightA s b && (allN b.exits.length fun i => decide ((b.exits.getD i IEx.zero).map.length ≤ 100)) && lowA s) := rfl
  have hA : lightA s b = (decide (s.size ≤ 1024) && decide (s.parts.length ≤ 30) && decide (s.input.length ≤ 256) && s.right && decide (b.pcs.length ≤ 100) && decide (b.ops.length ≤ 600) && decide (b.exits.length ≤ 200)) := rfl
  have hR := fun q : s.parts.length ≤ 1000 => rRight18_spec (G := G) (h := h) s q hp
  have hw : lowA s = (decide (s.tick.toNat < 1152921504606846976) && decide (s.t.off.toNat < 1152921504606846976)) := rfl
  generalize light25 s b = X at *
  generalize lowA s = W at *
  generalize lightA s b = Y at *
  generalize s.right = rt at *
  have no : Y = false → (AV.bool false : AV) = AV.bool X := fun e => by rw [hL, e]; rfl
  refine Spec.is C4ok rfl ?_
  simp only [push_cast, simprocAttr]
  refine ⟨fun h1 => ?_, fun h1 => no ?_⟩
  · refine (hR (by omega)).to ?_
    cases rt with
    | false =>
      rw [Bool.and_false, Bool.false_and, Bool.false_and, Bool.false_and] at hA
      have := no hA
      simp only [push_cast, simprocAttr]
      first | done | exact this
    | true =>
      rw [decide_eq_true (by omega), decide_eq_true (by omega), decide_eq_true (by omega), Bool.true_and, Bool.true_and, Bool.true_and, Bool.true_and] at hA
      simp only [push_cast, simprocAttr]
      refine ⟨fun h2 => no ?_, fun h2 => ?_⟩
      · rw [hA]
        simp only [Bool.and_eq_false_iff, decide_eq_false_iff_not]
        omega
      · rw [decide_eq_true (by omega), decide_eq_true (by omega), decide_eq_true (by omega)] at hA
        rw [hA, Bool.and_true, Bool.and_true, Bool.true_and] at hL
        refine lpc.rel [2, 3, 5] (fun m ρ h' => ∃ k : Nat, m = b.exits.length - k ∧ k ≤ b.exits.length ∧ h = h' ∧ (∀ i, i < k → decide ((b.exits.getD i IEx.zero).map.length ≤ 100) = true) ∧
          ρ = [(2, .cp s.cells 0), (3, .cp b.cells 0), (5, .int .i64 (k : Int))]) ⟨_, 0, rfl, by omega, rfl, by intro i hi; omega, rfl⟩ ?_
        rintro m _ _ ⟨k, rfl, hk, rfl, hall, rfl⟩
        by_cases hk2 : k < b.exits.length
        · by_cases hv : (b.exits.getD k IEx.zero).map.length ≤ 100
          · have hv' : ¬ (((b.exits.getD k IEx.zero).map.length : Int) > 100) := by omega
            simp (disch := omega) only [push_cast, simprocAttr, wrap_i64, toNat_ofInt64, Nat.min_eq_left, Int.toNat_of_nonneg, hk2, hv']
            refine ⟨_, _, by omega, .refl _, k + 1, rfl, by omega, rfl, fun i hi => ?_, rfl⟩
            by_cases hik : i = k
            · rw [hik]; exact hv
            · exact of_decide_eq_true (hall i (by omega))
          · have hv' : (((b.exits.getD k IEx.zero).map.length : Int) > 100) := by omega
            simp only [push_cast, simprocAttr, hk2, hv']
            rw [hL, allN_false k hk2 (decide_eq_false hv)]; rfl
        · obtain rfl : k = b.exits.length := by omega
          rw [allN_true hall, Bool.true_and] at hL
          have q : ¬ (b.exits.length < b.exits.length) := by omega
          by_cases h3 : s.tick.toNat < 1152921504606846976
          · have h3' : (s.tick.toNat : Int) < 1152921504606846976 := by omega
            rw [decide_eq_true h3, Bool.true_and] at hw
            by_cases h4 : s.t.off.toNat < 1152921504606846976
            · have h4' : (s.t.off.toNat : Int) < 1152921504606846976 := by omega
              simp only [push_cast, simprocAttr, q, h3', h4']
              rw [hL, hw, decide_eq_true h4]
            · have h4' : ¬ ((s.t.off.toNat : Int) < 1152921504606846976) := by omega
              simp only [push_cast, simprocAttr, q, h3', h4']
              rw [hL, hw, decide_eq_false h4]
          · have h3' : ¬ ((s.tick.toNat : Int) < 1152921504606846976) := by omega
            rw [decide_eq_false h3, Bool.false_and] at hw
            simp only [push_cast, simprocAttr, q, h3']
            rw [hL, hw]
  · rw [hA]
    simp only [Bool.and_eq_false_iff, decide_eq_false_iff_not]
    omega
end Go.Ab
end
section
/- The laws of apply: the example. -/
set_option linter.unusedSimpArgs false
set_option linter.unusedVariables false
set_option maxRecDepth 10000
namespace Go.Ab
open Go.Proofs
variable {G : Glo} {h : Heap}
theorem Reg_spec {H : Heap} {l : Plc} {c : ICpu} {M : IRam} (hm : MachAt H l c M) : Spec Tryz.prog G 18 [.ptr l.p 0, .int .i64 1] H (Is (.int .u32 ((c.regs.toList.getD 1 0#32).toNat : Int)) H) := by
  obtain ⟨v, hc, _⟩ := hm.hc
  have hr : ∀ v, (cpuC c l.bus v)[2]? = some (.int .u32 ((c.regs.toList.getD 1 0#32).toNat : Int)) := fun v => r32_r _ _ _ 1 (by omega)
  have hh : Spec Tryz.prog G 42 [.ptr l.p 0, .int .i64 1] H (Is (.bool true) H) := by
    refine Spec.is C42ok rfl ?_
    simp only [push_cast, simprocAttr]
  refine Spec.is C18ok rfl ?_
  simp only [push_cast, simprocAttr]
  refine hh.to ?_
  simp only [push_cast, simprocAttr, hc, hr]
def W25 : IBk := ⟨[2147483648#32], [⟨1, 0, 0, 1, 0, 0⟩, ⟨2, 0, 0, 4, 0, 0⟩, ⟨3, 0, 1, 28, 0, 0⟩], [⟨1, 2147483652#32, -1, 4, [⟨1, 2⟩]⟩], 0⟩
theorem W25_check : W25.check = 0 := by decide
theorem W25_wf : W25.wf := by
  refine ⟨by decide, by decide, by decide, ?_, by decide, by decide, by decide, ?_⟩ <;> decide
theorem W25_may : askN (newC 64 [] []) W25 1 = 0 := by
  rw [askN, W25_check, if_neg (by simp)]
  have : mayN (newC 64 [] []) W25 1 = true := by
    rw [may_eq _ _ _ W25_check (by intro i hi; exact absurd hi (by simp [newC])) (by decide) (by decide)]
    decide
  rw [this]; rfl
theorem goes25 : Goes 64 [] [] := ⟨by decide, by decide, by decide, (by intro p hp; cases hp), by decide⟩
theorem awake25_spec : Spec Tryz.prog G 6 [] h (Is (.bool true) h) := by
  have hn : Spec Tryz.prog G 17 [.int .i64 64, .nils, .nils] h (CpuNew h 64 [] []) :=
    Spec.args (cpuNew_spec (G := G) goes25) (.cons (ArgLe.refl _ _) (.cons (ArgLe.nils _) (.cons (ArgLe.nils _) .nil)))
  refine Spec.drop ?_
  refine Spec.walk C6ok rfl ?_
  simp only [push_cast, simprocAttr]
  refine hn.mono ?_
  rintro _ H ⟨l, rfl, _, hm, hf, ho⟩
  simp only [push_cast, simprocAttr]
  intro c3 hc3
  refine ⟨bkP W25, H, Le.box hc3, ?_⟩
  simp only [push_cast, simprocAttr]
  refine (mayA_spec (G := G) hm W25_wf 1).to ?_
  rw [W25_may]
  simp only [push_cast, simprocAttr]
  refine (doA_yes (G := G) hm W25_wf 1 (by decide) W25_may W25_check).mono ?_
  rintro _ H2 ⟨rfl, hm2, ho2⟩
  obtain ⟨R, hR, hOut, hD1, hD2⟩ : ∃ R : List (BitVec 32), R.length = 32 ∧ W25.outOf (newC 64 [] []).regs.toList ((IRam.new 64).layP []) = outC R 2147483652 1 4 0 ∧ (doC (newC 64 [] []) W25 ((IRam.new 64).layP [])).regs.toList.getD 1 0#32 = 4#32 ∧ (doC (newC 64 [] []) W25 ((IRam.new 64).layP [])).tick = 1#64 := ⟨[0, 4, 0, 0, 0, 0, 0, 0, 0, 0, 0, 0, 0, 0, 0, 0, 0, 0, 0, 0, 0, 0, 0, 0, 0, 0, 0, 0, 0, 0, 0, 0], rfl, rfl, rfl, rfl⟩
  rw [hOut]
  generalize doC (newC 64 [] []) W25 ((IRam.new 64).layP []) = C2 at *
  simp only [push_cast, simprocAttr]
  intro c5 hc5
  refine ⟨oc_len hR, wkQ.same ?_⟩
  rw [oc_put36 hR]
  have hm5 : MachAt (Ab.upd H2 c5 ⟨outC R 2147483652 1 4 0, 0⟩) l C2 ((W25.ramOf (newC 64 [] []).regs.toList ((IRam.new 64).layP []))) := hm2.upd hc5
  have ol := oc_len (pc := 2147483652#32) (done := 1) (why := 4) (exit := 0) hR
  have o33 := (oc_at (pc := 2147483652#32) (done := 1) (why := 4) (exit := 0) hR).2.1
  obtain ⟨v5, hc5', _⟩ := hm2.hc
  have hRg := Reg_spec (G := G) hm2
  rw [hD1] at hRg
  simp only [push_cast, simprocAttr, ol, o33]
  rw [era_none hc5]
  refine hRg.to ?_
  have ht : ∀ v, (cpuC C2 l.bus v)[42]? = some (.int .u64 1) := fun v => by rw [cpb_42, hD2]; rfl
  simp only [push_cast, simprocAttr, hc5', ht]
  refine ⟨h, fun d x hd => ?_, rfl⟩
  have hn : ¬ l.has d := fun e => by rw [hf d e] at hd; cases hd
  rw [ho2 d hn, ho d hn]
  exact hd
end Go.Ab
end
section
/- The law ApplyNils. -/
set_option linter.unusedSimpArgs false
set_option linter.unusedVariables false
set_option maxRecDepth 10000
namespace Go.Ab
open Go.Proofs
variable {G : Glo} {h : Heap}
theorem Check_nil : Spec Tryz.prog G 43 [.nilp] h (Is (.int .i64 1) h) := by
  refine Spec.is C43ok rfl ?_
  simp only [push_cast, simprocAttr]
theorem askA_nil (b : AV) (fuel : Int) : Spec Tryz.prog G 19 [.nilp, b, .int .i64 fuel] h (Is (.int .i64 2) h) := by
  refine Spec.is C19ok rfl ?_
  simp only [push_cast, simprocAttr]
section
variable {H : Heap} {l : Plc} {c : ICpu} {M : IRam}
theorem askA_nob (fuel : Int) : Spec Tryz.prog G 19 [.ptr l.p 0, .nilp, .int .i64 fuel] H (Is (.int .i64 1) H) := by
  refine Spec.is C19ok rfl ?_
  simp only [push_cast, simprocAttr]
  refine Check_nil.to ?_
  simp only [push_cast, simprocAttr]
end
theorem mayA_of {x b : AV} {fuel : Int} {e : Int} (hA : ∀ h : Heap, Spec Tryz.prog G 19 [x, b, .int .i64 fuel] h (Is (.int .i64 e) h)) : Spec Tryz.prog G 12 [x, b, .int .i64 fuel] h (Is (.bool (e == 0)) h) := by
  refine Spec.is C12ok rfl ?_
  simp only [push_cast, simprocAttr]
  refine (hA _).to ?_
  simp only [push_cast, simprocAttr]
theorem doA_of {x b : AV} {fuel : Int} {e : Int} (hA : ∀ h : Heap, Spec Tryz.prog G 19 [x, b, .int .i64 fuel] h (Is (.int .i64 e) h)) (he : e ≠ 0) : Spec Tryz.prog G 8 [x, b, .int .i64 fuel] h (Is (.tup [.agg out0, .int .i64 e]) h) := by
  have hn' : (e != 0) = true := by simp [he]
  refine Spec.is C8ok rfl ?_
  simp only [push_cast, simprocAttr]
  intro c6 hc6
  have m6 : upd h c6 ⟨[.int .u32 0, .int .u32 0, .int .u32 0, .int .u32 0, .int .u32 0, .int .u32 0, .int .u32 0, .int .u32 0, .int .u32 0, .int .u32 0, .int .u32 0, .int .u32 0, .int .u32 0, .int .u32 0, .int .u32 0, .int .u32 0, .int .u32 0, .int .u32 0, .int .u32 0, .int .u32 0, .int .u32 0, .int .u32 0, .int .u32 0, .int .u32 0, .int .u32 0, .int .u32 0, .int .u32 0, .int .u32 0, .int .u32 0, .int .u32 0, .int .u32 0, .int .u32 0, .int .u32 0, .int .i64 0, .int .i64 0, .int .i64 0], 0⟩ c6 = some ⟨[.int .u32 0, .int .u32 0, .int .u32 0, .int .u32 0, .int .u32 0, .int .u32 0, .int .u32 0, .int .u32 0, .int .u32 0, .int .u32 0, .int .u32 0, .int .u32 0, .int .u32 0, .int .u32 0, .int .u32 0, .int .u32 0, .int .u32 0, .int .u32 0, .int .u32 0, .int .u32 0, .int .u32 0, .int .u32 0, .int .u32 0, .int .u32 0, .int .u32 0, .int .u32 0, .int .u32 0, .int .u32 0, .int .u32 0, .int .u32 0, .int .u32 0, .int .u32 0, .int .u32 0, .int .i64 0, .int .i64 0, .int .i64 0], 0⟩ := upd_same _ _ _
  have s6 : Sub h (upd h c6 ⟨[.int .u32 0, .int .u32 0, .int .u32 0, .int .u32 0, .int .u32 0, .int .u32 0, .int .u32 0, .int .u32 0, .int .u32 0, .int .u32 0, .int .u32 0, .int .u32 0, .int .u32 0, .int .u32 0, .int .u32 0, .int .u32 0, .int .u32 0, .int .u32 0, .int .u32 0, .int .u32 0, .int .u32 0, .int .u32 0, .int .u32 0, .int .u32 0, .int .u32 0, .int .u32 0, .int .u32 0, .int .u32 0, .int .u32 0, .int .u32 0, .int .u32 0, .int .u32 0, .int .u32 0, .int .i64 0, .int .i64 0, .int .i64 0], 0⟩) := (Sub.refl h).alloc hc6
  generalize upd h c6 ⟨[.int .u32 0, .int .u32 0, .int .u32 0, .int .u32 0, .int .u32 0, .int .u32 0, .int .u32 0, .int .u32 0, .int .u32 0, .int .u32 0, .int .u32 0, .int .u32 0, .int .u32 0, .int .u32 0, .int .u32 0, .int .u32 0, .int .u32 0, .int .u32 0, .int .u32 0, .int .u32 0, .int .u32 0, .int .u32 0, .int .u32 0, .int .u32 0, .int .u32 0, .int .u32 0, .int .u32 0, .int .u32 0, .int .u32 0, .int .u32 0, .int .u32 0, .int .u32 0, .int .u32 0, .int .i64 0, .int .i64 0, .int .i64 0], 0⟩ = H6 at m6 s6 ⊢
  refine (hA H6).to ?_
  simp only [push_cast, simprocAttr, hn', m6]
  refine ⟨rfl, fun x y hx => ?_⟩
  have hxb : x ≠ c6 := fun e => by rw [e, hc6] at hx; cases hx
  rw [upd_ne hxb]; exact s6 _ _ hx
theorem light25_facts {s : ISt} {b : IBk} (h : light25 s b = true) : b.wf ∧ (∀ e ∈ b.exits, e.map.length ≤ 100) ∧ s.parts.length ≤ 30 ∧ s.right = true ∧ s.tick.toNat < 1152921504606846976 ∧ s.t.off.toNat < 1152921504606846976 := by
  simp only [light25, lightA, lowA, Bool.and_eq_true, decide_eq_true_eq] at h
  obtain ⟨⟨⟨⟨⟨⟨⟨⟨h1, h2⟩, h3⟩, h4⟩, h5⟩, h6⟩, h7⟩, h8⟩, h9, h10⟩ := h
  have hm : ∀ e ∈ b.exits, e.map.length ≤ 100 := by
    intro e he
    obtain ⟨i, hi, rfl⟩ := List.getElem_of_mem he
    have := allN_get h8 i hi
    simpa [hi] using this
  exact ⟨⟨by omega, by omega, by omega, fun e he => (by have := hm e he; omega), by omega, by omega, by omega, fun e he => (by have := hm e he; omega)⟩, hm, h2, h4, h9, h10⟩
theorem lawNils_spec (hG : GP G) (s : ISt) (b : IBk) (fuel : Int) (he : b.exits.length ≤ 9223372036854775807) (hp : ∀ p ∈ s.parts, p.b.length ≤ 9223372036854775807) : Spec Tryz.prog G 3 [.agg s.cells, .agg b.cells, .int .i64 fuel] h (Is (.bool true) h) := by
  have hL := fun h : Heap => light25_spec (G := G) (h := h) s b he hp
  have hA := fun h : Heap => awake25_spec (G := G) (h := h)
  have ball : partOf b.cells 0 (some 4) = some (.agg b.cells) := partOf_all rfl
  have hz0 : splice [.int .u32 0, .int .u32 0, .int .u32 0, .int .u32 0, .int .u32 0, .int .u32 0, .int .u32 0, .int .u32 0, .int .u32 0, .int .u32 0, .int .u32 0, .int .u32 0, .int .u32 0, .int .u32 0, .int .u32 0, .int .u32 0, .int .u32 0, .int .u32 0, .int .u32 0, .int .u32 0, .int .u32 0, .int .u32 0, .int .u32 0, .int .u32 0, .int .u32 0, .int .u32 0, .int .u32 0, .int .u32 0, .int .u32 0, .int .u32 0, .int .u32 0, .int .u32 0, .int .u32 0, .int .i64 0, .int .i64 0, .int .i64 0] 0 out0 = out0 := rfl
  have hl0 : out0.length = 36 := rfl
  have hpo : partOf out0 0 (some 36) = some (.agg out0) := partOf_all rfl
  have hq0 : aeq false [.i, .i, .i, .i, .i, .i, .i, .i, .i, .i, .i, .i, .i, .i, .i, .i, .i, .i, .i, .i, .i, .i, .i, .i, .i, .i, .i, .i, .i, .i, .i, .i, .i, .i, .i, .i] (.agg out0) (.agg [.int .u32 0, .int .u32 0, .int .u32 0, .int .u32 0, .int .u32 0, .int .u32 0, .int .u32 0, .int .u32 0, .int .u32 0, .int .u32 0, .int .u32 0, .int .u32 0, .int .u32 0, .int .u32 0, .int .u32 0, .int .u32 0, .int .u32 0, .int .u32 0, .int .u32 0, .int .u32 0, .int .u32 0, .int .u32 0, .int .u32 0, .int .u32 0, .int .u32 0, .int .u32 0, .int .u32 0, .int .u32 0, .int .u32 0, .int .u32 0, .int .u32 0, .int .u32 0, .int .u32 0, .int .i64 0, .int .i64 0, .int .i64 0]) = some (.bool true) := rfl
  have hfl : ∀ ρ, fls .u ρ = ρ := fun _ => rfl
  refine Spec.drop ?_
  refine Spec.walk C3ok rfl ?_
  simp only [push_cast, simprocAttr]
  intro b2 hb2
  have m2 : upd h b2 ⟨s.cells, 0⟩ b2 = some ⟨s.cells, 0⟩ := upd_same _ _ _
  have s2 : Sub h (upd h b2 ⟨s.cells, 0⟩) := (Sub.refl h).alloc hb2
  generalize upd h b2 ⟨s.cells, 0⟩ = H2 at m2 s2 ⊢
  refine (hL H2).to ?_
  rcases hl : light25 s b with _ | _
  · simp only [push_cast, simprocAttr]
    refine (hA H2).to ?_
    simp only [push_cast, simprocAttr]
    exact ⟨h, s2, rfl⟩
  · obtain ⟨hw, hx, hpl, hr0, ht, hof⟩ := light25_facts hl
    obtain ⟨n, hn, hg⟩ := ISt.goes hr0 (by omega)
    simp only [push_cast, simprocAttr]
    refine (rCheck_spec (G := G) b hw).to ?_
    by_cases hc : b.check = 0
    · obtain ⟨k1, k2, k3⟩ := check_pcs hc
      have k1' : 0 < b.pcs.length := k1
      have k1i : (0 : Int) < (b.pcs.length : Int) := by omega
      have hc' : (b.check != 0) = false := by simp [hc]
      simp only [push_cast, simprocAttr, hc, hc']
      refine (Own_spec (G := G) b hw).to ?_
      simp only [push_cast, simprocAttr]
      refine (doA_of (G := G) (fun h => askA_nil (bkP b) fuel) (by omega)).to ?_
      simp only [push_cast, simprocAttr, hz0]
      intro b8 hb8
      rw [era_none hb8]
      simp only [push_cast, simprocAttr, hl0, hfl, k1', k1i, m2]
      have hs3 : ∀ X, Sub h (upd H2 b2 X) := fun X x y hx => by rw [upd_ne (fun e => by rw [e, hb2] at hx; cases hx)]; exact s2 _ _ hx
      have hs3 := hs3 ⟨ISt.cells { s with pc := b.pcs.getD 0 0#32 }, 0⟩
      have m3 := upd_same H2 b2 ⟨ISt.cells { s with pc := b.pcs.getD 0 0#32 }, 0⟩
      have hn' : ({ s with pc := b.pcs.getD 0 0#32 } : ISt).size = n := hn
      have hg' : Goes n ({ s with pc := b.pcs.getD 0 0#32 } : ISt).parts ({ s with pc := b.pcs.getD 0 0#32 } : ISt).input := hg
      generalize ({ s with pc := b.pcs.getD 0 0#32 } : ISt) = s' at *
      generalize upd H2 b2 ⟨s'.cells, 0⟩ = H3 at *
      refine (lBegin_spec (G := G) s' n hn' hg').mono ?_
      rintro _ H4 ⟨l, rfl, ⟨lo, le⟩, hm, hf, ho⟩
      generalize beginC s' n = c at *
      generalize (IRam.new n).layP s'.parts = M at *
      simp only [push_cast, simprocAttr]
      refine (doA_of (G := G) (fun h => askA_nob (l := l) fuel) (by omega)).to ?_
      simp only [push_cast, simprocAttr, hz0]
      intro b11 hb11
      rw [era_none hb11]
      simp only [push_cast, simprocAttr, hl0, hfl]
      refine (cBus_spec (G := G) hm).to ?_
      simp only [push_cast, simprocAttr]
      refine (bStore_off (G := G) hG hm 1#32 0#64).mono ?_
      rintro _ H5 ⟨rfl, hm5, ho5⟩
      have hak : askN { c with bus := { c.bus with off := true, code := 1#32 } } b 32 = 4 := by
        rw [askN, hc, if_neg (by simp), mayN]; simp
      generalize ({ c with bus := { c.bus with off := true, code := 1#32 } } : ICpu) = c5 at *
      have hD := doA_no (G := G) hm5 hw 32 (by rw [hak]; omega)
      have hM := mayA_spec (G := G) hm5 hw 32
      rw [hak] at hD hM
      simp only [push_cast, simprocAttr]
      refine hD.to ?_
      simp only [push_cast, simprocAttr, hz0]
      intro b13 hb13
      rw [era_none hb13]
      simp only [push_cast, simprocAttr, hl0, hfl, hpo, hq0]
      refine (mayA_of (G := G) (fun h => askA_nil (bkP b) fuel)).to ?_
      simp only [push_cast, simprocAttr]
      refine (mayA_of (G := G) (fun h => askA_nob (l := l) fuel)).to ?_
      simp only [push_cast, simprocAttr]
      refine hM.to ?_
      simp only [push_cast, simprocAttr]
      refine (hA _).to ?_
      simp only [push_cast, simprocAttr]
      refine ⟨h, fun d x hd => ?_, rfl⟩
      have h3 := hs3 _ _ hd
      have hnl : ¬ l.has d := fun e => by rw [hf d e] at h3; cases h3
      rw [ho5 d (fun e => hnl (by rw [e]; simp [Plc.has, Plc.l])), ho d hnl]
      exact h3
    · have hc' : (b.check != 0) = true := by simp [hc]
      simp only [push_cast, simprocAttr, hc, hc']
      refine (hA H2).to ?_
      simp only [push_cast, simprocAttr]
      exact ⟨h, s2, rfl⟩
end Go.Ab
end
section
/- A frame for walks over what values stand for, part Ab11. -/
namespace Go.Ab
open Go.ChangeShapes Go.WideShapes Go.ChangeAt Go.RowKit
/-! From what a row reads to what is known. -/
inductive TD where
  | b
  | i (k : IntKind)
  | s
  | sl (e : TD)
  | st (fs : List TD)
  | ar (n : Nat) (e : TD)
  deriving Inhabited
def tdFields (P : Program) (rec : TypeId → Option TD) : Nat → List Field → Option (List TD)
  | _, [] => some []
  | n, f :: r => match rec f.type with
    | some td => if f.offset = n then (tdFields P rec (n + P.cellsOf f.type) r).map (td :: ·) else none
    | none => none
def tdOf (P : Program) : Nat → TypeId → Option TD
  | 0, _ => none
  | d + 1, t => match P.underlying t with
    | some .bool => some .b
    | some (.int k) => some (.i k)
    | some .string => some .s
    | some (.slice e) => if 0 < P.cellsOf e then (tdOf P d e).map .sl else none
    | some (.struct fs) => match tdFields P (tdOf P d) 0 fs.toList with
      | some l => if (fs.toList.map fun f => P.cellsOf f.type).sum = P.cellsOf t then some (.st l) else none
      | none => none
    | some (.array n e) => if n * P.cellsOf e = P.cellsOf t then (tdOf P d e).map (.ar n) else none
    | _ => none
inductive Dat : TD → List AV → Prop
  | b (x : Bool) : Dat .b [.bool x]
  | i (k : IntKind) (n : Int) (h : k.min ≤ n ∧ n ≤ k.max) : Dat (.i k) [.int k n]
  | s (x : ByteArray) (h : x.size ≤ maxLen) : Dat .s [.str x]
  | sl (e : TD) (ls : List (List AV)) (hl : ls.length ≤ maxLen) (h : ∀ l ∈ ls, Dat e l) : Dat (.sl e) [.ro ls.flatten ls.length]
  | st (fs : List TD) (ls : List (List AV)) (hl : ls.length = fs.length) (h : ∀ (j : Nat) f l, fs[j]? = some f → ls[j]? = some l → Dat f l) : Dat (.st fs) ls.flatten
  | ar (n : Nat) (e : TD) (ls : List (List AV)) (hl : ls.length = n) (h : ∀ l ∈ ls, Dat e l) : Dat (.ar n e) ls.flatten
def NoO : Nat → Prop := fun _ => False
section
variable {P : Program} {w : World} {H : Type} {enc : TypeId × Value → H} {base : Nat} {spare : Nat → Bool} {held : Bool}
theorem mapM_some {α β : Type} {f : α → Option β} {l : List α} {m : List β} (h : l.mapM f = some m) : l.length = m.length ∧ ∀ (i : Nat) x, l[i]? = some x → ∃ y, m[i]? = some y ∧ f x = some y := mapM_get h
theorem RepL.flatten {O : Nat → Prop} : ∀ (asz : List (List AV)) (vs : List (List Value)), asz.length = vs.length → (∀ (i : Nat) a v, asz[i]? = some a → vs[i]? = some v → RepL w O a v) → RepL w O asz.flatten vs.flatten := by
  intro asz
  induction asz with
  | nil => intro vs hl _; cases vs with
    | nil => exact .nil
    | cons _ _ => simp at hl
  | cons a r ih =>
    intro vs hl h
    cases vs with
    | nil => simp at hl
    | cons v s =>
      simp only [List.flatten_cons]
      exact (h 0 a v rfl rfl).append (ih s (by simpa using hl) fun i a v h1 h2 => h (i + 1) a v (by simpa using h1) (by simpa using h2))
/-- The first cells, the next ones, and so on: all of them. -/
theorem split_cells (n z : Nat) (cs : List Value) (h : cs.length = n * z) : ((List.range n).map fun i => (cs.drop (i * z)).take z).flatten = cs := by
  induction n generalizing cs with
  | zero => simp at h; subst h; simp
  | succ n ih =>
    rw [List.range_succ_eq_map, List.map_cons, List.map_map, List.flatten_cons]
    have hd : (cs.drop z).length = n * z := by simp [h, Nat.succ_mul]
    have := ih (cs.drop z) hd
    have hf : ((fun i => (cs.drop (i * z)).take z) ∘ Nat.succ) = fun i => ((cs.drop z).drop (i * z)).take z := by
      funext i
      simp [List.drop_drop, Nat.succ_mul, Nat.add_comm]
    rw [hf, this]
    simp
theorem split_fields : ∀ (fs : List Field) (n : Nat) (cs : List Value), (∀ (j : Nat) f, fs[j]? = some f → f.offset = n + ((fs.take j).map fun f => P.cellsOf f.type).sum) → cs.length = n + (fs.map fun f => P.cellsOf f.type).sum →
    (fs.map fun f => (cs.drop f.offset).take (P.cellsOf f.type)).flatten = cs.drop n := by
  intro fs
  induction fs with
  | nil => intro n cs _ hl; simp at hl; simp [← hl]
  | cons f r ih =>
    intro n cs ho hl
    have h0 := ho 0 f rfl
    simp at h0
    simp only [List.map_cons, List.sum_cons] at hl
    have := ih (n + P.cellsOf f.type) cs (fun j g hg => by
      have := ho (j + 1) g (by simpa using hg)
      simp only [List.take_succ_cons, List.map_cons, List.sum_cons] at this
      omega) (by omega)
    rw [List.map_cons, List.flatten_cons, this, h0, ← List.drop_drop, List.take_append_drop]
theorem tdFields_get {rec : TypeId → Option TD} : ∀ (fs : List Field) (n : Nat) (l : List TD), tdFields P rec n fs = some l →
    l.length = fs.length ∧ (∀ (j : Nat) f, fs[j]? = some f → f.offset = n + ((fs.take j).map fun f => P.cellsOf f.type).sum ∧ ∃ td, l[j]? = some td ∧ rec f.type = some td) := by
  intro fs
  induction fs with
  | nil => intro n l h; simp [tdFields] at h; subst h; exact ⟨rfl, fun j f h => by simp at h⟩
  | cons f r ih =>
    intro n l h
    simp only [tdFields] at h
    split at h
    · rename_i td htd
      split at h
      · rename_i ho
        obtain ⟨m, hm, rfl⟩ := Option.map_eq_some_iff.1 h
        obtain ⟨i1, i2⟩ := ih _ _ hm
        refine ⟨by simp [i1], fun j g hg => ?_⟩
        cases j with
        | zero => simp at hg; subst hg; exact ⟨by simp [ho], td, rfl, htd⟩
        | succ j =>
          obtain ⟨k1, k2⟩ := i2 j g (by simpa using hg)
          refine ⟨by rw [k1]; simp; omega, ?_⟩
          simpa using k2
      · cases h
    · cases h
theorem cells_at {a : Addr} {n : Nat} {cs : List Value} (h : w.cells? base a n = some cs) : cs.length = n ∧ ∀ i v, cs[i]? = some v → w.cell? (a.add i) = some v := by
  unfold World.cells? at h
  split at h
  · obtain ⟨h1, h2⟩ := mapM_some h
    simp at h1
    refine ⟨h1.symm, fun i v hv => ?_⟩
    have hlt : i < n := by rw [h1]; exact (List.getElem?_eq_some_iff.1 hv).1
    obtain ⟨y, hy, hy'⟩ := h2 i i (by simp [hlt])
    rw [hy] at hv
    cases hv
    exact hy'
  · cases h
theorem dat_of : ∀ (fuel : Nat) (t : TypeId) (cs : List Value) (x : DataW H × List MemPlace), DataW.trod enc P w base spare held fuel t cs = some x → ∀ (d : Nat) (td : TD), tdOf P d t = some td →
    ∃ avs, Dat td avs ∧ RepL w NoO avs cs ∧ (∀ c ∈ cs, c.oneCell' = true) := by
  intro fuel
  induction fuel with
  | zero => intro t cs x h; simp [DataW.trod] at h
  | succ fuel ih =>
    intro t cs x h d td htd
    cases d with
    | zero => simp [tdOf] at htd
    | succ d =>
      cases hu : P.underlying t with
      | none => simp [tdOf, hu] at htd
      | some u =>
        cases u <;> simp only [tdOf, hu] at htd <;> (try (simp at htd; done))
        case bool =>
          cases htd
          simp only [DataW.trod, hu] at h
          split at h <;> (try (cases h; done)) <;> rename_i h1 <;> (try (cases h1; done))
          exact ⟨_, .b _, RepL.nil.cons (.bool _), by simp [Value.oneCell']⟩
        case int k =>
          cases htd
          simp only [DataW.trod, hu] at h
          split at h <;> (try (cases h; done)) <;> rename_i h1 <;> (try (cases h1; done))
          cases h1
          split at h
          · rename_i hk
            obtain ⟨rfl, hk2⟩ := hk
            simp [Lit.wf] at hk2
            exact ⟨_, .i _ _ hk2, RepL.nil.cons (.int _ _), by simp [Value.oneCell']⟩
          · cases h
        case string =>
          cases htd
          simp only [DataW.trod, hu] at h
          split at h <;> (try (cases h; done)) <;> rename_i h1 <;> (try (cases h1; done))
          split at h
          · rename_i hl
            exact ⟨_, .s _ hl, RepL.nil.cons (.str _), by simp [Value.oneCell']⟩
          · cases h
        case slice e =>
          split at htd
          · rename_i hz
            obtain ⟨te, hte, rfl⟩ := Option.map_eq_some_iff.1 htd
            simp only [DataW.trod, hu] at h
            split at h <;> (try (cases h; done)) <;> rename_i h1 <;> (try (cases h1; done))
            · exact ⟨_, .sl te [] (by simp) (by simp), RepL.nil.cons (.roe none 0), by simp [Value.oneCell']⟩
            · rename_i a len cap
              cases h1
              split at h
              · rename_i hc
                simp only [Option.bind_eq_some_iff] at h
                obtain ⟨elems, hel, hx2⟩ := h
                obtain ⟨e1, e2⟩ := mapM_some hel
                simp at e1
                -- the elements, one by one
                have key : ∀ i, i < len → ∃ (cs : List Value) (avs : List AV), w.cells? base (a.add (i * P.cellsOf e)) (P.cellsOf e) = some cs ∧ Dat te avs ∧ RepL w NoO avs cs ∧ (∀ c ∈ cs, c.oneCell' = true) := by
                  intro i hi
                  obtain ⟨y, _, hy⟩ := e2 i i (by simp [hi])
                  simp only [Option.bind_eq_some_iff] at hy
                  obtain ⟨cs, h1, h2⟩ := hy
                  obtain ⟨avs, h3, h4, h5⟩ := ih e cs y h2 d te hte
                  exact ⟨cs, avs, h1, h3, h4, h5⟩
                have kall : ∃ ls : List (List AV), ls.length = len ∧ ∀ (i : Nat) l, ls[i]? = some l → ∃ cs, w.cells? base (a.add (i * P.cellsOf e)) (P.cellsOf e) = some cs ∧ Dat te l ∧ RepL w NoO l cs ∧ (∀ c ∈ cs, c.oneCell' = true) := by
                  clear e1 e2 hel hc hx2
                  induction len with
                  | zero => exact ⟨[], rfl, fun i l h => by simp at h⟩
                  | succ n ihn =>
                    obtain ⟨ls, l1, l2⟩ := ihn fun i hi => key i (by omega)
                    obtain ⟨cs, avs, k1, k2, k3, k4⟩ := key n (by omega)
                    refine ⟨ls ++ [avs], by simp [l1], fun i l hl => ?_⟩
                    by_cases hi : i < ls.length
                    · rw [List.getElem?_append_left hi] at hl
                      exact l2 i l hl
                    · rw [List.getElem?_append_right (by omega)] at hl
                      have : i = n := by
                        have := (List.getElem?_eq_some_iff.1 hl).1
                        simp at this; omega
                      subst this
                      rw [l1] at hl
                      simp at hl
                      subst hl
                      exact ⟨cs, k1, k2, k3, k4⟩
                obtain ⟨ls, l1, l2⟩ := kall
                have hdat : Dat (.sl te) [.ro ls.flatten ls.length] := .sl te ls (by omega) fun l hl => by
                  obtain ⟨i, hi⟩ := List.mem_iff_getElem?.1 hl
                  obtain ⟨cs, _, k2, _⟩ := l2 i l hi
                  exact k2
                refine ⟨_, hdat, RepL.nil.cons ?_, by simp [Value.oneCell']⟩
                rw [l1]
                by_cases h0 : len = 0
                · subst h0
                  rw [List.eq_nil_of_length_eq_zero l1]
                  exact .roe _ _
                · -- the row
                  have hspot : a.spot = none := by
                    obtain ⟨cs, avs, k1, k2, k3, k4⟩ := key 0 (by omega)
                    obtain ⟨q1, q2⟩ := cells_at k1
                    have hc0 := q2 0 _ (List.getElem?_eq_getElem (by omega))
                    simp only [Nat.zero_mul] at hc0
                    have : (a.add 0).add 0 = a := by simp [Addr.add]
                    rw [this] at hc0
                    exact World.cell?_spot hc0
                  obtain ⟨b, o, sp⟩ := a
                  simp only at hspot
                  subst hspot
                  have hlens : ∀ (i : Nat) l, ls[i]? = some l → l.length = P.cellsOf e := by
                    intro i l hl
                    obtain ⟨cs, k1, _, k3, _⟩ := l2 i l hl
                    rw [k3.1]; exact (cells_at k1).1
                  have hcell : ∀ (j : Nat) v, ls.flatten[j]? = some v → ∃ c, w.cell? ⟨b, o + j, none⟩ = some c ∧ c.oneCell' = true ∧ Rep w NoO v c := by
                    have gen : ∀ (m : Nat) (ms : List (List AV)), (∀ (i : Nat) l, ms[i]? = some l → ls[m + i]? = some l) → ∀ (j : Nat) v, ms.flatten[j]? = some v → ∃ c, w.cell? ⟨b, o + (m * P.cellsOf e + j), none⟩ = some c ∧ c.oneCell' = true ∧ Rep w NoO v c := by
                      intro m ms
                      induction ms generalizing m with
                      | nil => intro _ j v hv; simp at hv
                      | cons l r ihr =>
                        intro hm j v hv
                        have hl := hm 0 l rfl
                        simp only [Nat.add_zero] at hl
                        obtain ⟨cs, k1, k2, k3, k4⟩ := l2 m l hl
                        obtain ⟨q1, q2⟩ := cells_at k1
                        have hll := hlens m l hl
                        rw [List.flatten_cons] at hv
                        by_cases hj : j < l.length
                        · rw [List.getElem?_append_left hj] at hv
                          have hcs : cs[j]? = some (cs[j]'(by omega)) := List.getElem?_eq_getElem _
                          have := q2 j _ hcs
                          rw [Addr.add_lit, Addr.add_lit] at this
                          exact ⟨_, by rw [← Nat.add_assoc]; exact this, k4 _ (List.getElem_mem _), k3.2 j v _ hv hcs⟩
                        · rw [List.getElem?_append_right (by omega)] at hv
                          obtain ⟨c, z1, z2, z3⟩ := ihr (m + 1) (fun i l hl => by
                            have := hm (i + 1) l (by simpa using hl)
                            rwa [show m + 1 + i = m + (i + 1) by omega]) (j - l.length) v hv
                          refine ⟨c, ?_, z2, z3⟩
                          rw [show m * P.cellsOf e + j = (m + 1) * P.cellsOf e + (j - l.length) by rw [Nat.succ_mul]; omega]
                          exact z1
                    intro j v hv
                    have := gen 0 ls (fun i l hl => by rwa [Nat.zero_add]) j v hv
                    simpa using this
                  have hb : b < w.heap.size := by
                    obtain ⟨cs, avs, k1, k2, k3, k4⟩ := key 0 (by omega)
                    obtain ⟨q1, q2⟩ := cells_at k1
                    have hc0 := q2 0 _ (List.getElem?_eq_getElem (by omega))
                    simp only [Nat.zero_mul, Addr.add_lit] at hc0
                    unfold World.cell? at hc0
                    cases hbb : w.heap[b]? with
                    | none => simp [hbb] at hc0
                    | some y => exact (Array.getElem?_eq_some_iff.1 hbb).1
                  refine .ro _ _ _ b o (fun j => (w.cell? ⟨b, o + j, none⟩).getD undef) hc.2.1 hb (fun h => h) (fun j v hv => ?_) (fun j v hv => ?_)
                  · obtain ⟨c, z1, z2, _⟩ := hcell j v hv
                    rw [z1]; exact ⟨rfl, z2⟩
                  · obtain ⟨c, z1, _, z3⟩ := hcell j v hv
                    rw [z1]; exact z3
              · cases h
          · cases htd
        case struct fs =>
          split at htd
          · rename_i l hl
            split at htd
            · rename_i hsum
              cases htd
              simp only [DataW.trod, hu] at h
              split at h
              · rename_i hlen
                obtain ⟨xs, hxs, _⟩ := Option.map_eq_some_iff.1 h
                obtain ⟨e1, e2⟩ := mapM_some hxs
                obtain ⟨f1, f2⟩ := tdFields_get fs.toList 0 l hl
                have key : ∀ (j : Nat) f, fs.toList[j]? = some f → ∃ td avs, l[j]? = some td ∧ Dat td avs ∧ RepL w NoO avs ((cs.drop f.offset).take (P.cellsOf f.type)) ∧ (∀ c ∈ (cs.drop f.offset).take (P.cellsOf f.type), c.oneCell' = true) := by
                  intro j f hf
                  obtain ⟨y, _, hy⟩ := e2 j f hf
                  obtain ⟨_, td, k1, k2⟩ := f2 j f hf
                  obtain ⟨avs, h3, h4, h5⟩ := ih f.type _ y hy d td k2
                  exact ⟨td, avs, k1, h3, h4, h5⟩
                have kall : ∃ ls : List (List AV), ls.length = fs.toList.length ∧ ∀ (j : Nat) f a, fs.toList[j]? = some f → ls[j]? = some a → ∃ td, l[j]? = some td ∧ Dat td a ∧ RepL w NoO a ((cs.drop f.offset).take (P.cellsOf f.type)) := by
                  clear e1 e2 hxs h f1 f2 hl hlen hsum
                  generalize fs.toList = F at key
                  induction F generalizing l with
                  | nil => exact ⟨[], rfl, fun j f a h => by simp at h⟩
                  | cons g r ihF =>
                    obtain ⟨td, avs, k1, k2, k3, _⟩ := key 0 g rfl
                    cases l with
                    | nil => simp at k1
                    | cons l0 lr =>
                      obtain ⟨ls, m1, m2⟩ := ihF lr fun j f hf => by
                        obtain ⟨td, avs, z1, z2⟩ := key (j + 1) f (by simpa using hf)
                        exact ⟨td, avs, by simpa using z1, z2⟩
                      refine ⟨avs :: ls, by simp [m1], fun j f a hf ha => ?_⟩
                      cases j with
                      | zero => simp at hf ha; subst hf; subst ha; exact ⟨td, k1, k2, k3⟩
                      | succ j =>
                        obtain ⟨td, z1, z2⟩ := m2 j f a (by simpa using hf) (by simpa using ha)
                        exact ⟨td, by simpa using z1, z2⟩
                obtain ⟨ls, m1, m2⟩ := kall
                have hsplit := split_fields (P := P) fs.toList 0 cs (fun j f hf => (f2 j f hf).1) (by rw [hlen, hsum]; simp)
                simp only [List.drop_zero] at hsplit
                have hrep : RepL w NoO ls.flatten cs := by
                  rw [← hsplit]
                  refine RepL.flatten _ _ (by simp [m1]) fun j a v ha hv => ?_
                  simp only [List.getElem?_map, Option.map_eq_some_iff] at hv
                  obtain ⟨f, hf, rfl⟩ := hv
                  obtain ⟨td, _, _, z3⟩ := m2 j f a hf ha
                  exact z3
                refine ⟨ls.flatten, .st l ls (by rw [m1, f1]) fun j td a htd ha => ?_, hrep, ?_⟩
                · have hlt : j < fs.toList.length := by rw [← m1]; exact (List.getElem?_eq_some_iff.1 ha).1
                  obtain ⟨td', z1, z2, _⟩ := m2 j _ a (List.getElem?_eq_getElem hlt) ha
                  rw [htd] at z1
                  cases z1
                  exact z2
                · intro c hc
                  rw [← hsplit] at hc
                  obtain ⟨m, hm, hcm⟩ := List.mem_flatten.1 hc
                  obtain ⟨f, hf, rfl⟩ := List.mem_map.1 hm
                  obtain ⟨j, hj⟩ := List.mem_iff_getElem?.1 hf
                  obtain ⟨_, _, _, _, _, k5⟩ := key j f hj
                  exact k5 c hcm
              · cases h
            · cases htd
          · cases htd
        case array n e =>
          split at htd
          · rename_i hsz
            obtain ⟨te, hte, rfl⟩ := Option.map_eq_some_iff.1 htd
            simp only [DataW.trod, hu] at h
            split at h
            · rename_i hlen
              obtain ⟨xs, hxs, _⟩ := Option.map_eq_some_iff.1 h
              obtain ⟨e1, e2⟩ := mapM_some hxs
              have key : ∀ i, i < n → ∃ avs, Dat te avs ∧ RepL w NoO avs ((cs.drop (i * P.cellsOf e)).take (P.cellsOf e)) ∧ (∀ c ∈ (cs.drop (i * P.cellsOf e)).take (P.cellsOf e), c.oneCell' = true) := by
                intro i hi
                obtain ⟨y, _, hy⟩ := e2 i i (by simp [hi])
                exact ih e _ y hy d te hte
              have kall : ∃ ls : List (List AV), ls.length = n ∧ ∀ (i : Nat) a, ls[i]? = some a → Dat te a ∧ RepL w NoO a ((cs.drop (i * P.cellsOf e)).take (P.cellsOf e)) := by
                clear e1 e2 hxs h hsz hlen htd hu
                induction n with
                | zero => exact ⟨[], rfl, fun i a h => by simp at h⟩
                | succ n ihn =>
                  obtain ⟨ls, l1, l2⟩ := ihn fun i hi => key i (by omega)
                  obtain ⟨avs, k1, k2, _⟩ := key n (by omega)
                  refine ⟨ls ++ [avs], by simp [l1], fun i a ha => ?_⟩
                  by_cases hi : i < ls.length
                  · rw [List.getElem?_append_left hi] at ha
                    exact l2 i a ha
                  · rw [List.getElem?_append_right (by omega)] at ha
                    have : i = n := by
                      have := (List.getElem?_eq_some_iff.1 ha).1
                      simp at this; omega
                    subst this
                    rw [l1] at ha
                    simp at ha
                    subst ha
                    exact ⟨k1, k2⟩
              obtain ⟨ls, l1, l2⟩ := kall
              have hsplit := split_cells n (P.cellsOf e) cs (by rw [hlen, hsz])
              have hrep : RepL w NoO ls.flatten cs := by
                rw [← hsplit]
                refine RepL.flatten _ _ (by simp [l1]) fun j a v ha hv => ?_
                have hlt : j < n := by rw [← l1]; exact (List.getElem?_eq_some_iff.1 ha).1
                simp only [List.getElem?_map, Option.map_eq_some_iff] at hv
                obtain ⟨i, hi, rfl⟩ := hv
                rw [List.getElem?_range hlt] at hi
                cases hi
                exact (l2 j a ha).2
              refine ⟨ls.flatten, .ar n te ls l1 fun a ha => ?_, hrep, ?_⟩
              · obtain ⟨i, hi⟩ := List.mem_iff_getElem?.1 ha
                exact (l2 i a hi).1
              · intro c hc
                rw [← hsplit] at hc
                obtain ⟨m, hm, hcm⟩ := List.mem_flatten.1 hc
                obtain ⟨i, hi, rfl⟩ := List.mem_map.1 hm
                obtain ⟨_, _, _, k5⟩ := key i (by simpa using hi)
                exact k5 c hcm
            · cases h
          · cases htd
def argOf (td : TD) (avs : List AV) : AV :=
  match td with
  | .st _ | .ar _ _ => .agg avs
  | _ => avs.headD .any
theorem arg_of {r : Go.Reach} {b0 : Nat} {t : TypeId} {v : Value} {x : DataW H} {ps : List MemPlace} (hv : Value.okWide P w r b0 t v) (h : DataW.Trod enc P w base spare held t v x ps) {d : Nat} {td : TD} (htd : tdOf P d t = some td) :
    ∃ avs, Dat td avs ∧ Rep w NoO (argOf td avs) v := by
  obtain ⟨fuel, hf⟩ := h
  obtain ⟨avs, h1, h2, h3⟩ := dat_of fuel t _ _ hf d td htd
  refine ⟨avs, h1, ?_⟩
  have one : (∃ a, avs = [a]) → v.cells.toList = [v] → (match td with | .st _ | .ar _ _ => False | _ => True) → Rep w NoO (argOf td avs) v := by
    rintro ⟨a, rfl⟩ hc ht
    rw [hc] at h2
    have hr := h2.2 0 a v rfl rfl
    cases td <;> first | exact hr | exact ht.elim
  have agg : (∃ cs, v = .agg cs) → argOf td avs = .agg avs → Rep w NoO (argOf td avs) v := by
    rintro ⟨cs, rfl⟩ he
    rw [he]
    have := h2.agg h3
    simpa [Value.cells] using this
  cases d with
  | zero => simp [tdOf] at htd
  | succ d =>
    cases hu : P.underlying t with
    | none => simp [tdOf, hu] at htd
    | some u =>
      cases u <;> simp only [tdOf, hu] at htd <;> (try (simp at htd; done))
      case bool =>
        cases htd
        simp only [Value.okWide, hu, Cell.okWide] at hv
        cases h1
        refine one ⟨_, rfl⟩ ?_ trivial
        cases v <;> simp_all [Cell.ok, Value.cells]
      case int k =>
        cases htd
        obtain ⟨n, rfl⟩ := okWide_int hu hv
        cases h1
        exact one ⟨_, rfl⟩ rfl trivial
      case string =>
        cases htd
        obtain ⟨n, rfl⟩ := okWide_string hu hv
        cases h1
        exact one ⟨_, rfl⟩ rfl trivial
      case slice e =>
        split at htd
        · obtain ⟨te, _, rfl⟩ := Option.map_eq_some_iff.1 htd
          obtain ⟨a, len, cap, rfl⟩ := okWide_slice hu hv
          cases h1
          exact one ⟨_, rfl⟩ rfl trivial
        · cases htd
      case struct fs =>
        split at htd
        · split at htd
          · cases htd
            simp only [Value.okWide, hu] at hv
            obtain ⟨cs, hc, _⟩ := hv
            exact agg ⟨cs, hc⟩ rfl
          · cases htd
        · cases htd
      case array n e =>
        split at htd
        · obtain ⟨te, _, rfl⟩ := Option.map_eq_some_iff.1 htd
          simp only [Value.okWide, hu] at hv
          obtain ⟨cs, hc, _⟩ := hv
          exact agg ⟨cs, hc⟩ rfl
        · cases htd
def noG : Glo := .of fun _ => .any
/-- A law that is proved for whatever it is given: it is called, answers true, and leaves all asz it was. -/
theorem law_calls {f : FuncId} {args : List AV} {vs : List Value} (hs : Spec P noG f args noH (fun r _ => r = .bool true)) (hr : RepL w NoO args vs) :
    Calls P f vs.toArray w fun e w' => e = .returned (.bool true) ∧ Below w.heap.size w w' := by
  refine (hs w vs (fun b x h => by cases h) ⟨fun g => .any _, fun _ _ e => e.elim⟩ (by rw [noH_dom]; exact hr)).mono ?_
  rintro e w' ⟨v, r, h', rfl, rfl, _, h3, h4⟩
  refine ⟨by rw [rep_bool h3], ⟨h4.os, h4.tape, h4.out, h4.size, fun k hk => (h4.blk k hk rfl).2⟩⟩
end
end Go.Ab
end
section
/- What is known of data of a given type. -/
set_option linter.unusedVariables false
namespace Go.Ab
theorem dat_i {k : IntKind} {l : List AV} (h : Dat (.i k) l) : ∃ n, l = [.int k n] ∧ k.min ≤ n ∧ n ≤ k.max := by
  cases h with
  | i k n h => exact ⟨n, rfl, h⟩
theorem dat_b {l : List AV} (h : Dat .b l) : ∃ x, l = [.bool x] := by
  cases h with
  | b x => exact ⟨x, rfl⟩
theorem dat_s {l : List AV} (h : Dat .s l) : ∃ x, l = [.str x] ∧ x.size ≤ maxLen := by
  cases h with
  | s x h => exact ⟨x, rfl, h⟩
theorem dat_list {α : Type} {e : TD} (f : α → List AV) (ok : α → Prop) (one : ∀ l, Dat e l → ∃ x, ok x ∧ l = f x) : ∀ (ls : List (List AV)), (∀ l ∈ ls, Dat e l) →
    ∃ xs : List α, xs.length = ls.length ∧ ls.flatten = xs.flatMap f ∧ ∀ x ∈ xs, ok x := by
  intro ls
  induction ls with
  | nil => intro _; exact ⟨[], rfl, rfl, fun x h => by cases h⟩
  | cons l r ih =>
    intro h
    obtain ⟨x, hx, rfl⟩ := one l (h l (by simp))
    obtain ⟨xs, h1, h2, h3⟩ := ih fun l hl => h l (by simp [hl])
    refine ⟨x :: xs, by simp [h1], by simp [h2], fun y hy => ?_⟩
    rcases List.mem_cons.1 hy with rfl | hy
    · exact hx
    · exact h3 y hy
/-- A struct's fields, one after another. -/
theorem dat_st {fs : List TD} {l : List AV} (h : Dat (.st fs) l) : ∃ ls : List (List AV), ls.length = fs.length ∧ l = ls.flatten ∧ ∀ (j : Nat) f l, fs[j]? = some f → ls[j]? = some l → Dat f l := by
  cases h with
  | st fs ls hl h => exact ⟨ls, hl, rfl, h⟩
theorem dat_st_nil {l : List AV} (h : Dat (.st []) l) : l = [] := by
  obtain ⟨ls, h1, rfl, _⟩ := dat_st h
  rw [List.eq_nil_of_length_eq_zero h1]; rfl
theorem dat_st_cons {f : TD} {fs : List TD} {l : List AV} (h : Dat (.st (f :: fs)) l) : ∃ a b, l = a ++ b ∧ Dat f a ∧ Dat (.st fs) b := by
  obtain ⟨ls, h1, rfl, h2⟩ := dat_st h
  cases ls with
  | nil => simp at h1
  | cons a r => exact ⟨a, r.flatten, rfl, h2 0 f a rfl rfl, .st fs r (by simpa using h1) fun j f l x y => h2 (j + 1) f l (by simpa using x) (by simpa using y)⟩
theorem dat_u8 {l : List AV} (h : Dat (.i .u8) l) : ∃ x : BitVec 8, l = [.int .u8 (x.toNat : Int)] := by
  obtain ⟨n, rfl, h1, h2⟩ := dat_i h
  simp [IntKind.min, IntKind.max, IntKind.signed, IntKind.bits] at h1 h2
  refine ⟨BitVec.ofNat 8 n.toNat, ?_⟩
  rw [BitVec.toNat_ofNat, Nat.mod_eq_of_lt (by omega), Int.toNat_of_nonneg h1]
theorem dat_u16 {l : List AV} (h : Dat (.i .u16) l) : ∃ x : BitVec 16, l = [.int .u16 (x.toNat : Int)] := by
  obtain ⟨n, rfl, h1, h2⟩ := dat_i h
  simp [IntKind.min, IntKind.max, IntKind.signed, IntKind.bits] at h1 h2
  refine ⟨BitVec.ofNat 16 n.toNat, ?_⟩
  rw [BitVec.toNat_ofNat, Nat.mod_eq_of_lt (by omega), Int.toNat_of_nonneg h1]
theorem dat_u32 {l : List AV} (h : Dat (.i .u32) l) : ∃ x : BitVec 32, l = [.int .u32 (x.toNat : Int)] := by
  obtain ⟨n, rfl, h1, h2⟩ := dat_i h
  simp [IntKind.min, IntKind.max, IntKind.signed, IntKind.bits] at h1 h2
  refine ⟨BitVec.ofNat 32 n.toNat, ?_⟩
  rw [BitVec.toNat_ofNat, Nat.mod_eq_of_lt (by omega), Int.toNat_of_nonneg h1]
theorem dat_u64 {l : List AV} (h : Dat (.i .u64) l) : ∃ x : BitVec 64, l = [.int .u64 (x.toNat : Int)] := by
  obtain ⟨n, rfl, h1, h2⟩ := dat_i h
  simp [IntKind.min, IntKind.max, IntKind.signed, IntKind.bits] at h1 h2
  refine ⟨BitVec.ofNat 64 n.toNat, ?_⟩
  rw [BitVec.toNat_ofNat, Nat.mod_eq_of_lt (by omega), Int.toNat_of_nonneg h1]
theorem dat_i64 {l : List AV} (h : Dat (.i .i64) l) : ∃ n : Int, l = [.int .i64 n] ∧ -9223372036854775808 ≤ n ∧ n ≤ 9223372036854775807 := by
  obtain ⟨n, rfl, h1, h2⟩ := dat_i h
  simp [IntKind.min, IntKind.max, IntKind.signed, IntKind.bits] at h1 h2
  exact ⟨n, rfl, h1, h2⟩
theorem flatMap_one {α : Type} (f : α → AV) (l : List α) : (l.flatMap fun x => [f x]) = l.map f := by
  induction l with
  | nil => rfl
  | cons a r ih => simp [ih]
theorem dat_bytes {l : List AV} (h : Dat (.sl (.i .u8)) l) : ∃ xs : List (BitVec 8), xs.length ≤ maxLen ∧ l = [byt xs] := by
  cases h with
  | sl e ls hl h =>
    obtain ⟨xs, h1, h2, _⟩ := dat_list (fun x : BitVec 8 => [AV.int .u8 (x.toNat : Int)]) (fun _ => True) (fun l hl => by obtain ⟨x, rfl⟩ := dat_u8 hl; exact ⟨x, trivial, rfl⟩) ls h
    rw [flatMap_one] at h2
    exact ⟨xs, by omega, by rw [h2, ← h1]; rfl⟩
theorem dat_words {l : List AV} (h : Dat (.sl (.i .u32)) l) : ∃ xs : List (BitVec 32), xs.length ≤ maxLen ∧ l = [.ro (wds xs) xs.length] := by
  cases h with
  | sl e ls hl h =>
    obtain ⟨xs, h1, h2, _⟩ := dat_list (fun x : BitVec 32 => [AV.int .u32 (x.toNat : Int)]) (fun _ => True) (fun l hl => by obtain ⟨x, rfl⟩ := dat_u32 hl; exact ⟨x, trivial, rfl⟩) ls h
    rw [flatMap_one] at h2
    exact ⟨xs, by omega, by rw [h2, ← h1]; rfl⟩
theorem dat_ar32 {n : Nat} {l : List AV} (h : Dat (.ar n (.i .u32)) l) : ∃ xs : List (BitVec 32), xs.length = n ∧ l = wds xs := by
  cases h with
  | ar n e ls hl h =>
    obtain ⟨xs, h1, h2, _⟩ := dat_list (fun x : BitVec 32 => [AV.int .u32 (x.toNat : Int)]) (fun _ => True) (fun l hl => by obtain ⟨x, rfl⟩ := dat_u32 hl; exact ⟨x, trivial, rfl⟩) ls h
    rw [flatMap_one] at h2
    exact ⟨xs, by omega, h2⟩
/-- A struct's fields, cell by cell. -/
theorem dat_sl {α : Type} {e : TD} (f : α → List AV) (ok : α → Prop) (one : ∀ l, Dat e l → ∃ x, ok x ∧ l = f x) {l : List AV} (h : Dat (.sl e) l) : ∃ xs : List α, (∀ x ∈ xs, ok x) ∧ xs.length ≤ maxLen ∧ l = [.ro (xs.flatMap f) xs.length] := by
  cases h with
  | sl e ls hl h =>
    obtain ⟨xs, h1, h2, h3⟩ := dat_list f ok one ls h
    exact ⟨xs, h3, by omega, by rw [h2, ← h1]⟩
end Go.Ab
end
section
/- What is known of beginnings that come in. -/
set_option linter.unusedVariables false
namespace Go.Ab
def tdArr : TD := .st [.i .u64, .i .u8]
def tdPt : TD := .st [.i .u32, .sl (.i .u8)]
def tdStart : TD := .st [.i .i64, .sl tdPt, .sl tdArr, .i .u32, .ar 32 (.i .u32), .st [.i .u32, .i .u32, .i .u32, .i .u32, .i .u32, .i .u32, .i .u32], .i .u64, .i .u64, .st [.i .u64, .i .u64, .b], .i .u64, .i .u64]
theorem dat_kept {l : List AV} (h : Dat (.st [.i .u32, .i .u32, .i .u32, .i .u32, .i .u32, .i .u32, .i .u32]) l) : ∃ k : Kp, l = wds k.l := by
  obtain ⟨_, _, rfl, h1, h⟩ := dat_st_cons h
  obtain ⟨_, _, rfl, h2, h⟩ := dat_st_cons h
  obtain ⟨_, _, rfl, h3, h⟩ := dat_st_cons h
  obtain ⟨_, _, rfl, h4, h⟩ := dat_st_cons h
  obtain ⟨_, _, rfl, h5, h⟩ := dat_st_cons h
  obtain ⟨_, _, rfl, h6, h⟩ := dat_st_cons h
  obtain ⟨_, _, rfl, h7, h⟩ := dat_st_cons h
  obtain rfl := dat_st_nil h
  obtain ⟨a, rfl⟩ := dat_u32 h1
  obtain ⟨b, rfl⟩ := dat_u32 h2
  obtain ⟨c, rfl⟩ := dat_u32 h3
  obtain ⟨d, rfl⟩ := dat_u32 h4
  obtain ⟨e, rfl⟩ := dat_u32 h5
  obtain ⟨f, rfl⟩ := dat_u32 h6
  obtain ⟨g, rfl⟩ := dat_u32 h7
  exact ⟨⟨a, b, c, d, e, f, g⟩, rfl⟩
theorem dat_arr {l : List AV} (h : Dat tdArr l) : ∃ a : IArr, True ∧ l = a.cells := by
  obtain ⟨_, _, rfl, h1, h⟩ := dat_st_cons h
  obtain ⟨_, _, rfl, h2, h⟩ := dat_st_cons h
  obtain rfl := dat_st_nil h
  obtain ⟨a, rfl⟩ := dat_u64 h1
  obtain ⟨b, rfl⟩ := dat_u8 h2
  exact ⟨⟨a, b⟩, trivial, rfl⟩
theorem dat_pt {l : List AV} (h : Dat tdPt l) : ∃ p : IPart, p.b.length ≤ maxLen ∧ l = p.cells := by
  obtain ⟨_, _, rfl, h1, h⟩ := dat_st_cons h
  obtain ⟨_, _, rfl, h2, h⟩ := dat_st_cons h
  obtain rfl := dat_st_nil h
  obtain ⟨a, rfl⟩ := dat_u32 h1
  obtain ⟨b, hb, rfl⟩ := dat_bytes h2
  exact ⟨⟨a, b⟩, hb, rfl⟩
theorem dat_tim {l : List AV} (h : Dat (.st [.i .u64, .i .u64, .b]) l) : ∃ t : ITim, l = t.cells := by
  obtain ⟨_, _, rfl, h1, h⟩ := dat_st_cons h
  obtain ⟨_, _, rfl, h2, h⟩ := dat_st_cons h
  obtain ⟨_, _, rfl, h3, h⟩ := dat_st_cons h
  obtain rfl := dat_st_nil h
  obtain ⟨a, rfl⟩ := dat_u64 h1
  obtain ⟨b, rfl⟩ := dat_u64 h2
  obtain ⟨c, rfl⟩ := dat_b h3
  exact ⟨⟨a, b, c⟩, rfl⟩
theorem dat_start {l : List AV} (h : Dat tdStart l) : ∃ s : ISt, (∀ p ∈ s.parts, p.b.length ≤ maxLen) ∧ l = s.cells := by
  obtain ⟨_, _, rfl, h1, h⟩ := dat_st_cons h
  obtain ⟨_, _, rfl, h2, h⟩ := dat_st_cons h
  obtain ⟨_, _, rfl, h3, h⟩ := dat_st_cons h
  obtain ⟨_, _, rfl, h4, h⟩ := dat_st_cons h
  obtain ⟨_, _, rfl, h5, h⟩ := dat_st_cons h
  obtain ⟨_, _, rfl, h6, h⟩ := dat_st_cons h
  obtain ⟨_, _, rfl, h7, h⟩ := dat_st_cons h
  obtain ⟨_, _, rfl, h8, h⟩ := dat_st_cons h
  obtain ⟨_, _, rfl, h9, h⟩ := dat_st_cons h
  obtain ⟨_, _, rfl, h10, h⟩ := dat_st_cons h
  obtain ⟨_, _, rfl, h11, h⟩ := dat_st_cons h
  obtain rfl := dat_st_nil h
  obtain ⟨size, rfl, _⟩ := dat_i64 h1
  obtain ⟨parts, hp, _, rfl⟩ := dat_sl IPart.cells (fun p => p.b.length ≤ maxLen) (fun l => dat_pt) h2
  obtain ⟨input, _, _, rfl⟩ := dat_sl IArr.cells (fun _ => True) (fun l => dat_arr) h3
  obtain ⟨pc, rfl⟩ := dat_u32 h4
  obtain ⟨r, hr, rfl⟩ := dat_ar32 h5
  obtain ⟨k, rfl⟩ := dat_kept h6
  obtain ⟨cyc, rfl⟩ := dat_u64 h7
  obtain ⟨ins, rfl⟩ := dat_u64 h8
  obtain ⟨t, rfl⟩ := dat_tim h9
  obtain ⟨tick, rfl⟩ := dat_u64 h10
  obtain ⟨ret, rfl⟩ := dat_u64 h11
  refine ⟨⟨size, parts, input, pc, rgOf r, k, cyc, ins, t, tick, ret⟩, hp, ?_⟩
  rw [ISt.cells, rgOf_toList hr]
  rfl
end Go.Ab
end
section
/- What is known of blocks that come in. -/
set_option linter.unusedVariables false
namespace Go.Ab
def tdOp : TD := .st [.i .i64, .i .i64, .i .i64, .i .u32, .i .i64, .i .i64]
def tdVl : TD := .st [.i .i64, .i .i64]
def tdEx : TD := .st [.i .i64, .i .u32, .i .i64, .i .i64, .sl tdVl]
def tdBk : TD := .st [.sl (.i .u32), .sl tdOp, .sl tdEx, .i .i64]
theorem dat_op {l : List AV} (h : Dat tdOp l) : ∃ o : IOp, True ∧ l = o.cells := by
  obtain ⟨_, _, rfl, h1, h⟩ := dat_st_cons h
  obtain ⟨_, _, rfl, h2, h⟩ := dat_st_cons h
  obtain ⟨_, _, rfl, h3, h⟩ := dat_st_cons h
  obtain ⟨_, _, rfl, h4, h⟩ := dat_st_cons h
  obtain ⟨_, _, rfl, h5, h⟩ := dat_st_cons h
  obtain ⟨_, _, rfl, h6, h⟩ := dat_st_cons h
  obtain rfl := dat_st_nil h
  obtain ⟨a, rfl, _⟩ := dat_i64 h1
  obtain ⟨b, rfl, _⟩ := dat_i64 h2
  obtain ⟨c, rfl, _⟩ := dat_i64 h3
  obtain ⟨d, rfl⟩ := dat_u32 h4
  obtain ⟨e, rfl, _⟩ := dat_i64 h5
  obtain ⟨f, rfl, _⟩ := dat_i64 h6
  exact ⟨⟨a, b, c, d, e, f⟩, trivial, rfl⟩
theorem dat_vl {l : List AV} (h : Dat tdVl l) : ∃ v : IVl, True ∧ l = v.cells := by
  obtain ⟨_, _, rfl, h1, h⟩ := dat_st_cons h
  obtain ⟨_, _, rfl, h2, h⟩ := dat_st_cons h
  obtain rfl := dat_st_nil h
  obtain ⟨a, rfl, _⟩ := dat_i64 h1
  obtain ⟨b, rfl, _⟩ := dat_i64 h2
  exact ⟨⟨a, b⟩, trivial, rfl⟩
theorem dat_ex {l : List AV} (h : Dat tdEx l) : ∃ e : IEx, True ∧ l = e.cells := by
  obtain ⟨_, _, rfl, h1, h⟩ := dat_st_cons h
  obtain ⟨_, _, rfl, h2, h⟩ := dat_st_cons h
  obtain ⟨_, _, rfl, h3, h⟩ := dat_st_cons h
  obtain ⟨_, _, rfl, h4, h⟩ := dat_st_cons h
  obtain ⟨_, _, rfl, h5, h⟩ := dat_st_cons h
  obtain rfl := dat_st_nil h
  obtain ⟨a, rfl, _⟩ := dat_i64 h1
  obtain ⟨b, rfl⟩ := dat_u32 h2
  obtain ⟨c, rfl, _⟩ := dat_i64 h3
  obtain ⟨d, rfl, _⟩ := dat_i64 h4
  obtain ⟨m, _, _, rfl⟩ := dat_sl IVl.cells (fun _ => True) (fun l => dat_vl) h5
  exact ⟨⟨a, b, c, d, m⟩, trivial, rfl⟩
theorem dat_bk {l : List AV} (h : Dat tdBk l) : ∃ b : IBk, b.exits.length ≤ maxLen ∧ l = b.cells := by
  obtain ⟨_, _, rfl, h1, h⟩ := dat_st_cons h
  obtain ⟨_, _, rfl, h2, h⟩ := dat_st_cons h
  obtain ⟨_, _, rfl, h3, h⟩ := dat_st_cons h
  obtain ⟨_, _, rfl, h4, h⟩ := dat_st_cons h
  obtain rfl := dat_st_nil h
  obtain ⟨p, _, rfl⟩ := dat_words h1
  obtain ⟨o, _, _, rfl⟩ := dat_sl IOp.cells (fun _ => True) (fun l => dat_op) h2
  obtain ⟨e, _, he, rfl⟩ := dat_sl IEx.cells (fun _ => True) (fun l => dat_ex) h3
  obtain ⟨a, rfl, _⟩ := dat_i64 h4
  exact ⟨⟨p, o, e, a⟩, he, rfl⟩
end Go.Ab
end
section
/- Package-level tables that are known. -/
set_option linter.unusedVariables false
namespace Go.Ab
open Go.Proofs Go.ChangeShapes Go.WideShapes Go.ChangeAt Go.RowKit
theorem rep_tab {w : World} {O : Nat → Prop} {k : IntKind} {zs : List Int} {g : Nat} (h0 : 0 < zs.length) (hO : ¬ O g) (hc : ∀ i, i < zs.length → w.cell? ⟨g, i, none⟩ = some (.int k (zs.getD i 0))) :
    Rep w O (.cp (zs.map (.int k)) 0) (.pointer (some ⟨g, 0, none⟩)) := by
  have hb : g < w.heap.size := by
    have h := hc 0 h0
    by_cases hlt : g < w.heap.size
    · exact hlt
    · have e : w.heap[g]? = none := Array.getElem?_eq_none (Nat.not_lt.1 hlt)
      simp [World.cell?, e] at h
  refine .cp (zs.map (.int k)) 0 g 0 (fun i => .int k (zs.getD i 0)) hb hO (fun i v hv => ?_) (fun i v hv => ?_)
  · rw [List.getElem?_map] at hv
    obtain ⟨z, hz, rfl⟩ := Option.map_eq_some_iff.1 hv
    have hlt := (List.getElem?_eq_some_iff.1 hz).1
    exact ⟨by rw [Nat.zero_add]; exact hc i hlt, rfl⟩
  · rw [List.getElem?_map] at hv
    obtain ⟨z, hz, rfl⟩ := Option.map_eq_some_iff.1 hv
    have : zs.getD i 0 = z := by simp [List.getD, hz]
    rw [this]
    exact .int k z
/-- A law that leans on tables. -/
theorem law_callsT {P : Program} {w : World} {f : FuncId} {args : List AV} {vs : List Value} {g : Nat → AV} (hs : Spec P (Glo.of g) f args noH (fun r _ => r = .bool true)) (hg : ∀ j, Rep w NoO (g j) (.pointer (some ⟨j, 0, none⟩))) (hr : RepL w NoO args vs) :
    Calls P f vs.toArray w fun e w' => e = .returned (.bool true) ∧ Below w.heap.size w w' := by
  refine (hs w vs (fun b x h => by cases h) ⟨fun j => by rw [noH_dom]; exact hg j, fun _ _ e => e.elim⟩ (by rw [noH_dom]; exact hr)).mono ?_
  rintro e w' ⟨v, r, h', rfl, rfl, _, h3, h4⟩
  refine ⟨by rw [rep_bool h3], ⟨h4.os, h4.tape, h4.out, h4.size, fun k hk => (h4.blk k hk rfl).2⟩⟩
/-- A row of a table of pairs. -/
def pairD (k : IntKind) {H : Type} (p : Int × Int) : DataW H := Lib.tabData k [p.1, p.2]
theorem chunks (k : IntKind) : ∀ (zs : List (Int × Int)) (cs : List Value), cs.length = zs.length * 2 → (∀ i, i < zs.length → (cs.drop (i * 2)).take 2 = [Value.int k (zs.getD i (0, 0)).1, Value.int k (zs.getD i (0, 0)).2]) → cs = zs.flatMap fun z => [Value.int k z.1, Value.int k z.2] := by
  intro zs
  induction zs with
  | nil => intro cs hl _; simpa using hl
  | cons z r ih =>
    intro cs hl key
    have h0 := key 0 (by simp)
    rw [Nat.zero_mul, List.drop_zero] at h0
    have hd : cs = cs.take 2 ++ cs.drop 2 := (List.take_append_drop 2 cs).symm
    have ih' := ih (cs.drop 2) (by simp only [List.length_drop, List.length_cons] at hl ⊢; omega) (fun i hi => by
      have := key (i + 1) (by simp only [List.length_cons]; omega)
      rw [List.drop_drop, Nat.add_comm 2]
      rw [Nat.add_mul, Nat.one_mul] at this
      rw [this]
      simp [List.getD])
    rw [hd, h0, List.flatMap_cons, ih']
    simp [List.getD]
theorem cells_of_pairs {H : Type} {enc : TypeId × Value → H} {P : Program} {w : World} {base : Nat} {sp : Nat → Bool} {held : Bool} {fuel : Nat} {t e e' : TypeId} {n : Nat} {k : IntKind} {cs : List Value} {zs : List (Int × Int)} {p : List MemPlace}
    (ht : P.underlying t = some (.array n e)) (he : P.underlying e = some (.array 2 e')) (he' : P.underlying e' = some (.int k)) (hce' : P.cellsOf e' = 1) (hce : P.cellsOf e = 2) (hct : P.cellsOf t = n * 2)
    (h : DataW.trod enc P w base sp held fuel t cs = some (.agg (zs.map (pairD k)), p)) : cs = zs.flatMap fun z => [Value.int k z.1, Value.int k z.2] := by
  cases fuel with
  | zero => simp [DataW.trod] at h
  | succ fuel =>
    simp only [DataW.trod, ht, hce, hct] at h
    split at h
    · rename_i hl
      obtain ⟨xs, hm, hx⟩ := Option.map_eq_some_iff.1 h
      have hxs : xs.map (·.1) = zs.map fun z => (pairD k z : DataW H) := by
        have := congrArg Prod.fst hx
        simpa using this
      have hxl : xs.length = n := by simpa using Lib.mapM_length hm
      have hzl : zs.length = n := by
        have := congrArg List.length hxs
        simp at this
        omega
      have key : ∀ i, i < n → (cs.drop (i * 2)).take 2 = [Value.int k (zs.getD i (0, 0)).1, Value.int k (zs.getD i (0, 0)).2] := by
        intro i hi
        obtain ⟨b, hb, hf⟩ := Lib.mapM_at hm i i (by simp [hi])
        have h2 : (xs.map (·.1))[i]? = some b.1 := by simp [hb]
        rw [hxs, List.getElem?_map, List.getElem?_eq_getElem (by omega), Option.map_some, Option.some.injEq] at h2
        have hg : zs.getD i (0, 0) = zs[i]'(by omega) := by simp [List.getD, hi, hzl]
        rw [hg]
        obtain ⟨b1, b2⟩ := b
        simp only at h2
        subst h2
        exact Lib.cells_of_tab he he' hce' hce hf
      subst hzl
      exact chunks k zs cs hl key
    · cases h
end Go.Ab
end
section
/- The table of devices is known. -/
set_option linter.unusedVariables false
namespace Go.Ab
open Go.Proofs Go.ChangeShapes Go.WideShapes Go.ChangeAt Go.RowKit
def portZ : List (Int × Int) := [(1048576, 4), (268435456, 8), (33554432, 4), (33570816, 8), (33603576, 8)]
theorem portZ_C : ([1048576, 4, 268435456, 8, 33554432, 4, 33570816, 8, 33603576, 8] : List Int).map (AV.int .u32) = portC := rfl
theorem gPorts : Tryz.prog.globalNamed "mimesis/bus.ports" = some 0 := by kernel_rfl
theorem tPorts : (Tryz.prog.globals[0]?).map (·.type) = some 135 := by kernel_rfl
theorem uPorts : Tryz.prog.underlying 135 = some (.array 5 134) := by kernel_rfl
theorem uPort : Tryz.prog.underlying 134 = some (.array 2 24) := by kernel_rfl
theorem cPorts : Tryz.prog.cellsOf 135 = 5 * 2 := by kernel_rfl
theorem cPort : Tryz.prog.cellsOf 134 = 2 := by kernel_rfl
theorem uU32 : Tryz.prog.underlying 24 = some (.int .u32) := by kernel_rfl
theorem cU32 : Tryz.prog.cellsOf 24 = 1 := by kernel_rfl
theorem ports_tab {W : World} {rest : List (String × DataW Unit)} (h : laidMet Tryz.prog (("mimesis/bus.ports", YtephiagmompfjaaGreatDoor.Rows.laid_mimesis_bus_ports) :: rest) W) : Lib.TabIs Tryz.prog W "mimesis/bus.ports" .u32 [1048576, 4, 268435456, 8, 33554432, 4, 33570816, 8, 33603576, 8] := by
  obtain ⟨ps, ⟨g', t', cs, fuel, p, q, hg', ht', hvar, hd, _, _⟩, _⟩ := h
  obtain rfl := Option.some.inj (gPorts.symm.trans hg')
  obtain rfl := Option.some.inj (tPorts.symm.trans ht')
  have hd' : DataW.trod _ _ _ _ _ _ fuel 135 cs.toList = some (.agg (portZ.map (pairD .u32)), p) := hd
  unfold Lib.TabIs
  have hc := cells_of_pairs uPorts uPort uU32 cU32 cPort cPorts hd'
  rw [hvar]
  congr 1
  apply Array.toList_inj.1
  rw [hc]
  rfl
theorem ports_of {w : World} (h : laidMetH Tryz.prog [("mimesis/bus.ports", YtephiagmompfjaaGreatDoor.Rows.laid_mimesis_bus_ports)] w) : Rep w NoO (.cp portC 0) (.pointer (some ⟨0, 0, none⟩)) := by
  rw [MakeChecks.laidMetH_plain _ _ _ (by kernel_rfl)] at h
  have ht := ports_tab h
  rw [← portZ_C]
  exact rep_tab (by decide) (fun h => h) fun i hi => ht.cell gPorts i hi
/-- The globals, of which one is known. -/
def gP : Nat → AV := fun g => if g = 0 then .cp portC 0 else .any
theorem gP_ok : GP (Glo.of gP) := rfl
theorem gP_rep {w : World} (h : laidMetH Tryz.prog [("mimesis/bus.ports", YtephiagmompfjaaGreatDoor.Rows.laid_mimesis_bus_ports)] w) (j : Nat) : Rep w NoO (gP j) (.pointer (some ⟨j, 0, none⟩)) := by
  rw [gP]
  split
  · rename_i e; rw [e]; exact ports_of h
  · exact .any _
end Go.Ab
end
section
/- The statement ApplyNilsCardSaid: its row, from the contract of its function; its card, by the given tie. -/
namespace Go.Proofs.YtephiagmompfjaaGreatDoor
open Go.ChangeShapes Go.WideShapes Go.ChangeAt Go.RowKit Go.Ab
set_option linter.unusedVariables false

theorem ownApplyNils : ownKnob Tryz.prog.godebug = none := by kernel_rfl
theorem laidOutApplyNils : laidOutB Tryz.prog = true := by kernel_rfl
theorem tdApplyNils0 : tdOf Tryz.prog 8 32 = some (tdStart) := by kernel_rfl
theorem tdApplyNils1 : tdOf Tryz.prog 8 37 = some (tdBk) := by kernel_rfl
theorem tdApplyNils2 : tdOf Tryz.prog 8 3 = some (.i .i64) := by kernel_rfl
theorem doorApplyNils (os : Os) (args : Array Value) : laidMetH Tryz.prog [("mimesis/bus.ports", Rows.laid_mimesis_bus_ports)] ((World.doorLaid Tryz.prog 400 os).forCall (fun _ _ => 0) ⟨#[], args, []⟩).memory :=
  laidMetH_of_parts3 (fuel := 8) (laidMet_of_run' 8 (by kernel_rfl) (by kernel_rfl)) (by kernel_rfl) (by kernel_rfl)
set_option maxRecDepth 100000 in
theorem liftedApplyNils (os : Os) (started : os.Started) (H : Type) (enc : TypeId × Value → H) :
    ReturnsInHanded {} Tryz.checked os 3 .any (fun w args => (Rows.applyNilsSpec.pre enc Tryz.prog Tryz.f3 [] false w args ∧ laidMetH Tryz.prog [("mimesis/bus.ports", Rows.laid_mimesis_bus_ports)] w) ∧ sizedMet enc Tryz.prog Tryz.f3 (OpenSpec.ofChange Rows.applyNilsSpec) false w args)
      (Rows.applyNilsSpec.post enc Tryz.prog Tryz.f3 false true false false) := by
  refine returnsInHanded_of_change_and (C := Tryz.checked) (X := fun w _ => laidMetH Tryz.prog [("mimesis/bus.ports", Rows.laid_mimesis_bus_ports)] w) (fun _ _ _ hh h => h.of_heap hh) ownApplyNils started (by kernel_rfl) Tryz.func3
    (ChangeSpec.witness_shaped (enc := enc) (C := Tryz.checked) (os := os) (X := fun w _ => laidMetH Tryz.prog [("mimesis/bus.ports", Rows.laid_mimesis_bus_ports)] w) false (World.doorLaid Tryz.prog 400 os) #[.agg #[.int .i64 0, .slice none 0 0, .slice none 0 0, .int .u32 0, .int .u32 0, .int .u32 0, .int .u32 0, .int .u32 0, .int .u32 0, .int .u32 0, .int .u32 0, .int .u32 0, .int .u32 0, .int .u32 0, .int .u32 0, .int .u32 0, .int .u32 0, .int .u32 0, .int .u32 0, .int .u32 0, .int .u32 0, .int .u32 0, .int .u32 0, .int .u32 0, .int .u32 0, .int .u32 0, .int .u32 0, .int .u32 0, .int .u32 0, .int .u32 0, .int .u32 0, .int .u32 0, .int .u32 0, .int .u32 0, .int .u32 0, .int .u32 0, .int .u32 0, .int .u32 0, .int .u32 0, .int .u32 0, .int .u32 0, .int .u32 0, .int .u32 0, .int .u64 0, .int .u64 0, .int .u64 0, .int .u64 0, .bool false, .int .u64 0, .int .u64 0], .agg #[.slice none 0 0, .slice none 0 0, .slice none 0 0, .int .i64 0], .int .i64 0] 8 rfl (World.shaped_of_RefB (by kernel_rfl) (by kernel_rfl)) (by kernel_rfl) (by kernel_rfl) (by kernel_rfl) (doorApplyNils os _)) ?_
  intro W base args ds gs before hval0 hW _ _ hL _
  have hval : ∀ (j : Nat) t v, Tryz.f3.params[j]? = some t → args[j]? = some v → Value.okWide Tryz.prog W .any base t v := hval0
  have hW' := hW
  obtain ⟨p, q, hA0, hV, rfl, hfz, hnd⟩ := hW
  have hA : DataW.TrodAll enc Tryz.prog W 0 (fun _ => true) true Tryz.f3.params.toList args.toList ds p := hA0
  rw [Tryz.params3] at hA hval
  obtain ⟨v0, vs0, d0, ds0, p0, q0, hargs, rfl, rfl, h0, r0⟩ := trodAll_cons hA
  obtain ⟨v1, vs1, d1, ds1, p1, q1, rfl, rfl, rfl, h1, r1⟩ := trodAll_cons r0
  obtain ⟨v2, vs2, d2, ds2, p2, q2, rfl, rfl, rfl, h2, r2⟩ := trodAll_cons r1
  obtain ⟨rfl, rfl, rfl⟩ := trodAll_nil r2
  obtain rfl : args = #[v0, v1, v2] := by cases args; simp_all
  obtain ⟨rfl, rfl⟩ := trodVars_none hV
  have k0 := h0
  have lt0 : ∀ x ∈ p0, x.block < W.heap.size := by obtain ⟨m, hm⟩ := k0; exact DataW.trod_lt m _ _ _ hm
  obtain ⟨av0, dt0, rp0⟩ := arg_of (hval 0 32 v0 rfl rfl) h0 tdApplyNils0
  obtain ⟨x0, hx0, rfl⟩ := dat_start dt0
  have k1 := h1
  have lt1 : ∀ x ∈ p1, x.block < W.heap.size := by obtain ⟨m, hm⟩ := k1; exact DataW.trod_lt m _ _ _ hm
  obtain ⟨av1, dt1, rp1⟩ := arg_of (hval 1 37 v1 rfl rfl) h1 tdApplyNils1
  obtain ⟨x1, hx1, rfl⟩ := dat_bk dt1
  have k2 := h2
  have lt2 : ∀ x ∈ p2, x.block < W.heap.size := by obtain ⟨m, hm⟩ := k2; exact DataW.trod_lt m _ _ _ hm
  obtain ⟨av2, dt2, rp2⟩ := arg_of (hval 2 3 v2 rfl rfl) h2 tdApplyNils2
  obtain ⟨x2, rfl, _⟩ := dat_i64 dt2
  clear hA0 hval0
  refine (law_callsT ((lawNils_spec gP_ok x0 x1 x2 (by have := hx1; unfold maxLen at this; exact this) (by have := hx0; unfold maxLen at this; exact this)).mono fun r _ e => e.1) (gP_rep hL) (((RepL.nil.cons rp2).cons rp1).cons rp0)).mono fun e W' ⟨he, bel⟩ => ?_
  subst he
  exact ⟨_, rfl, _, _, _, [], _, [], hW', trodAll_mk1 (shut_bool Tryz.underlying4 _), (trodAll_cons_mk (Below.trod laidOutApplyNils (by kernel_rfl) (of_decide_eq_true (by kernel_rfl)) k0 bel lt0) (trodAll_cons_mk (Below.trod laidOutApplyNils (by kernel_rfl) (of_decide_eq_true (by kernel_rfl)) k1 bel lt1) (trodAll_cons_mk (Below.trod laidOutApplyNils (by kernel_rfl) (of_decide_eq_true (by kernel_rfl)) k2 bel lt2) trodAll_mk0))), rfl, bel.frame _, fun h => by cases h⟩
theorem overApplyNils : Rows.applyNilsRow.holds Tryz.pinned (OpenSpec.ofChange Rows.applyNilsSpec) :=
  OpenClaim.holds_of_wide 3 Tryz.f3 rfl rfl rfl rfl rfl rfl rfl ⟨rfl, rfl, rfl, rfl, rfl⟩ rfl rfl rfl rfl rfl (by kernel_rfl) Tryz.func3 (by kernel_rfl)
    (of_decide_eq_true (by kernel_rfl)) (by unfold Func.isWrapper; first | (rw [if_pos (by decide +kernel)]; kernel_rfl) | (rw [if_neg (by decide +kernel)]; exact ⟨rfl, rfl⟩))
    (fun os started H enc _ => liftedApplyNils os started H enc)
/-- The statement. -/
theorem provedApplyNilsCardSaid : Rows.ApplyNilsCardSaid :=
  Claim7.holds_tied_plain_at .later [] [.data] true Rows.applyNilsCard.stood.harness false
    overApplyNils (fun _ h => by cases h) (by kernel_rfl) (fun _ h => by cases h) applyNils_row_tie rfl ⟨rfl, rfl⟩ (by kernel_rfl) rfl
    (fun f fn hf hfn => by
      obtain rfl : f = 3 := Option.some.inj ((show Tryz.prog.funcNamed "mimesis/mimesislaw25.ApplyNils" = some 3 by kernel_rfl).symm.trans hf) |>.symm
      obtain rfl : fn = Tryz.f3 := (Option.some.inj (Tryz.func3.symm.trans hfn)).symm
      exact ⟨by kernel_rfl, fun j t ht => by
        rw [Tryz.params3] at ht
        have hm : t ∈ [32, 37, 3] := by simpa using Array.mem_of_getElem? ht
        have hall : ([32, 37, 3].all fun u => !Tryz.prog.wantsStandIn u) = true := by kernel_rfl
        exact (show Tryz.prog.wantsStandIn t = false by simpa using List.all_eq_true.1 hall t hm)⟩)
    (by kernel_rfl)
end Go.Proofs.YtephiagmompfjaaGreatDoor
end
