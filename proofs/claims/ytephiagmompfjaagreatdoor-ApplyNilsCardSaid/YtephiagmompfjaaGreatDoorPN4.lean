/- The program's machine that begins anywhere. -/
import Derived.Test.YtephiagmompfjaaGreatDoorPN3
section
/- The machine's cells. -/
set_option linter.unusedSimpArgs false
set_option linter.unusedVariables false
set_option maxRecDepth 10000
namespace Go.Ab
open Go.Proofs
/-- A record with 32 words behind its first cell. -/
def rec32 (x : AV) (r : Rg) (T : List AV) : List AV := x :: (wds r.toList ++ T)
section
variable (x y : AV) (r : Rg) (T : List AV) (k : Nat)
theorem rw_len : (wds r.toList).length = 32 := by simp [wds]
theorem r32_len : (rec32 x r T).length = 33 + T.length := by simp [rec32, rw_len]; omega
theorem r32_0 : (rec32 x r T)[0]? = some x := rfl
theorem r32_t : (rec32 x r T)[33 + k]? = T[k]? := by
  rw [rec32, show 33 + k = (32 + k) + 1 by omega, List.getElem?_cons_succ, List.getElem?_append_right (by rw [rw_len]; omega), rw_len]
  congr 1; omega
theorem r32_r (hk : k < 32) : (rec32 x r T)[1 + k]? = some (.int .u32 ((r.toList.getD k 0#32).toNat : Int)) := by
  rw [rec32, Nat.add_comm, List.getElem?_cons_succ, List.getElem?_append_left (by rw [rw_len]; omega), wds_get, if_pos (by simpa using hk)]
theorem r32_set0 : (rec32 x r T).set 0 y = rec32 y r T := rfl
theorem r32_set : (rec32 x r T).set (33 + k) y = rec32 x r (T.set k y) := by
  rw [rec32, show 33 + k = (32 + k) + 1 by omega, List.set_cons_succ, List.set_append_right _ _ (by rw [rw_len]; omega), rw_len, rec32]
  congr 3; omega
theorem r32_setr (hk : k < 32) (w : BitVec 32) : (rec32 x r T).set (1 + k) (.int .u32 (w.toNat : Int)) = rec32 x (r.set k w) T := by
  rw [rec32, Nat.add_comm, List.set_cons_succ, List.set_append_left _ _ (by rw [rw_len]; omega), rec32]
  congr 2
  simp [wds, List.map_set, Vector.toList_set]
theorem r32_drop : (rec32 x r T).drop (33 + k) = T.drop k := by
  rw [rec32, show 33 + k = (32 + k) + 1 by omega, List.drop_succ_cons, List.drop_append, List.drop_eq_nil_of_le (by rw [rw_len]; omega), rw_len, List.nil_append]
  congr 1; omega
theorem r32_regs : partOf (rec32 x r T) 1 (some 32) = some (.agg (wds r.toList)) := by
  rw [partOf_some, if_pos (by rw [r32_len]; omega)]
  congr 2
  rw [rec32, List.drop_succ_cons, List.drop_zero, List.take_append_of_le_length (by rw [rw_len]; omega), List.take_of_length_le (by rw [rw_len]; omega)]
theorem r32_part (n : Nat) (h : k + n ≤ T.length) : partOf (rec32 x r T) (33 + k) (some n) = some (.agg ((T.drop k).take n)) := by
  rw [partOf_some, if_pos (by rw [r32_len]; omega), r32_drop]
theorem r32_all (n : Nat) (h : n = 33 + T.length) : partOf (rec32 x r T) 0 (some n) = some (.agg (rec32 x r T)) := partOf_all (by rw [r32_len, h])
/-- Words of a list, as registers. -/
def rgOf (l : List (BitVec 32)) : Rg := if h : l.length = 32 then ⟨l.toArray, by simpa using h⟩ else Rg.zero
theorem rgOf_toList {l : List (BitVec 32)} (hl : l.length = 32) : (rgOf l).toList = l := by
  unfold rgOf
  rw [dif_pos hl]
  simp [Vector.toList]
theorem splice_len {C S : List AV} {k : Nat} (h : 2 ≤ S.length) : splice C k S = C.take k ++ S ++ C.drop (k + S.length) := by
  match S, h with
  | a :: b :: s, _ => rfl
theorem r32_spr (l : List (BitVec 32)) (hl : l.length = 32) : splice (rec32 x r T) 1 (wds l) = rec32 x (rgOf l) T := by
  rw [splice_len (by rw [wds_len, hl]; omega), show (wds l).length = 32 by rw [wds_len, hl]]
  have h1 : (rec32 x r T).drop (1 + 32) = T := r32_drop x r T 0
  rw [h1]
  simp [rec32, rgOf_toList hl]
theorem r32_sp (S : List AV) (h : 2 ≤ S.length) : splice (rec32 x r T) (33 + k) S = rec32 x r (splice T k S) := by
  rw [splice_len h, splice_len h, Nat.add_assoc, r32_drop]
  have h1 : (rec32 x r T).take (33 + k) = x :: (wds r.toList ++ T.take k) := by
    rw [rec32, show 33 + k = (32 + k) + 1 by omega, List.take_succ_cons, List.take_append, List.take_of_length_le (by rw [rw_len]; omega), rw_len]
    congr 3; omega
  rw [h1, rec32]
  simp
end
section
variable (c : ICpu)
def ICpu.tl : List AV := [.int .u32 (c.f.k.st.toNat : Int), .int .u32 (c.f.k.ie.toNat : Int), .int .u32 (c.f.k.tv.toNat : Int), .int .u32 (c.f.k.sc.toNat : Int), .int .u32 (c.f.k.ep.toNat : Int), .int .u32 (c.f.k.ca.toNat : Int), .int .u32 (c.f.k.tl.toNat : Int),
  .int .u64 (c.f.cyc.toNat : Int), .int .u64 (c.f.ins.toNat : Int), .int .u64 (c.tick.toNat : Int), .int .u64 (c.ret.toNat : Int), byt c.bus.b, arrs c.bus.c.l, .int .i64 (c.bus.c.came : Int), byt c.bus.c.rx, .bool c.bus.c.over, byt c.bus.c.out,
  .int .u64 (c.bus.t.off.toNat : Int), .int .u64 (c.bus.t.mark.toNat : Int), .bool c.bus.t.soft, .bool c.bus.off, .int .u32 (c.bus.code.toNat : Int), evts c.ev]
theorem ICpu.cells_eq : c.cells = rec32 (.int .u32 (c.pc.toNat : Int)) c.regs c.tl := rfl
@[push_cast] theorem cpu_0 : c.cells[0]? = some (.int .u32 (c.pc.toNat : Int)) := rfl
@[push_cast] theorem cpu_42 : c.cells[42]? = some (.int .u64 (c.tick.toNat : Int)) := r32_t _ _ c.tl 9
@[push_cast] theorem cpu_43 : c.cells[43]? = some (.int .u64 (c.ret.toNat : Int)) := r32_t _ _ c.tl 10
@[push_cast] theorem cpu_44 : c.cells[44]? = some (byt c.bus.b) := r32_t _ _ c.tl 11
@[push_cast] theorem cpu_45 : c.cells[45]? = some (arrs c.bus.c.l) := r32_t _ _ c.tl 12
@[push_cast] theorem cpu_46 : c.cells[46]? = some (.int .i64 (c.bus.c.came : Int)) := r32_t _ _ c.tl 13
@[push_cast] theorem cpu_47 : c.cells[47]? = some (byt c.bus.c.rx) := r32_t _ _ c.tl 14
@[push_cast] theorem cpu_48 : c.cells[48]? = some (.bool c.bus.c.over) := r32_t _ _ c.tl 15
@[push_cast] theorem cpu_49 : c.cells[49]? = some (byt c.bus.c.out) := r32_t _ _ c.tl 16
@[push_cast] theorem cpu_53 : c.cells[53]? = some (.bool c.bus.off) := r32_t _ _ c.tl 20
@[push_cast] theorem cpu_54 : c.cells[54]? = some (.int .u32 (c.bus.code.toNat : Int)) := r32_t _ _ c.tl 21
@[push_cast] theorem cpu_55 : c.cells[55]? = some (evts c.ev) := r32_t _ _ c.tl 22
@[push_cast] theorem cpu_len : c.cells.length = 56 := r32_len _ _ _
@[push_cast] theorem cpu_all : partOf c.cells 0 (some 56) = some (.agg c.cells) := partOf_all (cpu_len c)
@[push_cast] theorem cpu_regs : partOf c.cells 1 (some 32) = some (.agg (wds c.regs.toList)) := r32_regs _ _ _
@[push_cast] theorem cpu_file : partOf c.cells 33 (some 9) = some (.agg c.f.cells) := r32_part _ _ c.tl 0 9 (by simp [ICpu.tl])
@[push_cast] theorem cpu_kept : partOf c.cells 33 (some 7) = some (.agg (wds c.f.k.l)) := r32_part _ _ c.tl 0 7 (by simp [ICpu.tl])
@[push_cast] theorem cpu_bus : partOf c.cells 44 (some 11) = some (.agg c.bus.cells) := r32_part _ _ c.tl 11 11 (by simp [ICpu.tl])
@[push_cast] theorem cpu_tim : partOf c.cells 50 (some 3) = some (.agg c.bus.t.cells) := r32_part _ _ c.tl 17 3 (by simp [ICpu.tl])
@[push_cast] theorem cpu_s0 (w : BitVec 32) : c.cells.set 0 (.int .u32 (w.toNat : Int)) = ICpu.cells { c with pc := w } := rfl
@[push_cast] theorem cpu_s42 (w : BitVec 64) : c.cells.set 42 (.int .u64 (w.toNat : Int)) = ICpu.cells { c with tick := w } := r32_set _ _ _ c.tl 9
@[push_cast] theorem cpu_s43 (w : BitVec 64) : c.cells.set 43 (.int .u64 (w.toNat : Int)) = ICpu.cells { c with ret := w } := r32_set _ _ _ c.tl 10
@[push_cast] theorem cpu_s44 (b : List (BitVec 8)) : c.cells.set 44 (.ro (bys b) b.length) = ICpu.cells { c with bus := { c.bus with b := b } } := r32_set _ _ _ c.tl 11
@[push_cast] theorem cpu_s47 (b : List (BitVec 8)) : c.cells.set 47 (.ro (bys b) b.length) = ICpu.cells { c with bus := { c.bus with c := { c.bus.c with rx := b } } } := r32_set _ _ _ c.tl 14
theorem cpu_sr (l : List (BitVec 32)) (hl : l.length = 32) : splice c.cells 1 (wds l) = ICpu.cells { c with regs := rgOf l } := r32_spr _ _ _ l hl
@[push_cast] theorem cpu_sf (f : IFile) : splice c.cells 33 f.cells = ICpu.cells { c with f := f } := r32_sp _ _ c.tl 0 f.cells (by simp [IFile.cells, Kp.l])
@[push_cast] theorem cpu_st (t : ITim) : splice c.cells 50 t.cells = ICpu.cells { c with bus := { c.bus with t := t } } := r32_sp _ _ c.tl 17 t.cells (by simp [ITim.cells])
/-- The program's box. -/
def ICpu.tp (bus : Nat) (v : AV) : List AV := [.int .u32 (c.f.k.st.toNat : Int), .int .u32 (c.f.k.ie.toNat : Int), .int .u32 (c.f.k.tv.toNat : Int), .int .u32 (c.f.k.sc.toNat : Int), .int .u32 (c.f.k.ep.toNat : Int), .int .u32 (c.f.k.ca.toNat : Int), .int .u32 (c.f.k.tl.toNat : Int),
  .int .u64 (c.f.cyc.toNat : Int), .int .u64 (c.f.ins.toNat : Int), .int .u64 (c.tick.toNat : Int), .int .u64 (c.ret.toNat : Int), .ptr bus 0, v]
variable (bus : Nat) (v : AV)
theorem cpuC_eq : cpuC c bus v = rec32 (.int .u32 (c.pc.toNat : Int)) c.regs (c.tp bus v) := rfl
@[push_cast] theorem cpb_0 : (cpuC c bus v)[0]? = some (.int .u32 (c.pc.toNat : Int)) := rfl
@[push_cast] theorem cpb_42 : (cpuC c bus v)[42]? = some (.int .u64 (c.tick.toNat : Int)) := r32_t _ _ (c.tp bus v) 9
@[push_cast] theorem cpb_43 : (cpuC c bus v)[43]? = some (.int .u64 (c.ret.toNat : Int)) := r32_t _ _ (c.tp bus v) 10
@[push_cast] theorem cpb_44 : (cpuC c bus v)[44]? = some (.ptr bus 0) := r32_t _ _ (c.tp bus v) 11
@[push_cast] theorem cpb_45 : (cpuC c bus v)[45]? = some v := r32_t _ _ (c.tp bus v) 12
@[push_cast] theorem cpb_len : (cpuC c bus v).length = 46 := r32_len _ _ _
@[push_cast] theorem cpb_all : partOf (cpuC c bus v) 0 (some 46) = some (.agg (cpuC c bus v)) := partOf_all (cpb_len c bus v)
@[push_cast] theorem cpb_regs : partOf (cpuC c bus v) 1 (some 32) = some (.agg (wds c.regs.toList)) := r32_regs _ _ _
@[push_cast] theorem cpb_file : partOf (cpuC c bus v) 33 (some 9) = some (.agg c.f.cells) := r32_part _ _ (c.tp bus v) 0 9 (by simp [ICpu.tp])
@[push_cast] theorem cpb_kept : partOf (cpuC c bus v) 33 (some 7) = some (.agg (wds c.f.k.l)) := r32_part _ _ (c.tp bus v) 0 7 (by simp [ICpu.tp])
@[push_cast] theorem cpb_s0 (w : BitVec 32) : (cpuC c bus v).set 0 (.int .u32 (w.toNat : Int)) = cpuC { c with pc := w } bus v := rfl
@[push_cast] theorem cpb_s42 (w : BitVec 64) : (cpuC c bus v).set 42 (.int .u64 (w.toNat : Int)) = cpuC { c with tick := w } bus v := r32_set _ _ _ (c.tp bus v) 9
@[push_cast] theorem cpb_s43 (w : BitVec 64) : (cpuC c bus v).set 43 (.int .u64 (w.toNat : Int)) = cpuC { c with ret := w } bus v := r32_set _ _ _ (c.tp bus v) 10
@[push_cast] theorem cpb_s45 (u : AV) : (cpuC c bus v).set 45 u = cpuC c bus u := r32_set _ _ _ (c.tp bus v) 12
theorem cpb_sr (l : List (BitVec 32)) (hl : l.length = 32) : splice (cpuC c bus v) 1 (wds l) = cpuC { c with regs := rgOf l } bus v := r32_spr _ _ _ l hl
@[push_cast] theorem cpb_sf (f : IFile) : splice (cpuC c bus v) 33 f.cells = cpuC { c with f := f } bus v := r32_sp _ _ (c.tp bus v) 0 f.cells (by simp [IFile.cells, Kp.l])
end
section
variable (b : IBus)
@[push_cast] theorem bus_0 : b.cells[0]? = some (byt b.b) := rfl
@[push_cast] theorem bus_3 : b.cells[3]? = some (byt b.c.rx) := rfl
@[push_cast] theorem bus_8 : b.cells[8]? = some (.bool b.t.soft) := rfl
@[push_cast] theorem bus_t : partOf b.cells 6 (some 3) = some (.agg b.t.cells) := rfl
@[push_cast] theorem bus_c : partOf b.cells 1 (some 5) = some (.agg b.c.cells) := rfl
@[push_cast] theorem bus_len : b.cells.length = 11 := rfl
@[push_cast] theorem bus_all : partOf b.cells 0 (some 11) = some (.agg b.cells) := rfl
end
end Go.Ab
end
section
/- Time, calls, and for how long nobody is heard: the program's. -/
set_option linter.unusedSimpArgs false
set_option linter.unusedVariables false
set_option maxRecDepth 10000
namespace Go.Ab
open Go.Proofs
variable {G : Glo} {H : Heap}
theorem tNow_spec {p : Nat} {t : ITim} (ht : H p = some ⟨t.cells, 0⟩) (tick : BitVec 64) : Spec Tryz.prog G 57 [.ptr p 0, .int .u64 tick.toNat] H (Is (.int .u64 (t.now tick).toNat) H) := by
  have e : t.now tick = tick + t.off := rfl
  rw [e]
  refine Spec.is C57ok rfl ?_
  simp only [push_cast, simprocAttr, ht, ITim.cells]
theorem tUp_spec {p : Nat} {t : ITim} (ht : H p = some ⟨t.cells, 0⟩) (tick : BitVec 64) : Spec Tryz.prog G 93 [.ptr p 0, .int .u64 tick.toNat] H (Is (.bool (t.up tick)) H) := by
  have e : t.up tick = decide (t.mark.toNat ≤ (t.now tick).toNat) := rfl
  have hn := tNow_spec (G := G) ht tick
  generalize t.up tick = u at *
  refine Spec.is C93ok rfl ?_
  simp only [push_cast, simprocAttr, ht, ITim.cells]
  refine hn.to ?_
  simp only [push_cast, simprocAttr, ht, ITim.cells]
  rw [e]
  congr 1
  rw [Bool.eq_iff_iff]; simp only [decide_eq_true_eq]; omega
def ITim.left (t : ITim) (tick : BitVec 64) : BitVec 64 := if t.up tick then 0 else t.mark - t.now tick
theorem tLeft_spec {p : Nat} {t : ITim} (ht : H p = some ⟨t.cells, 0⟩) (tick : BitVec 64) : Spec Tryz.prog G 73 [.ptr p 0, .int .u64 tick.toNat] H (Is (.int .u64 (t.left tick).toNat) H) := by
  have e : t.left tick = if t.up tick then 0 else t.mark - t.now tick := rfl
  have hn := tNow_spec (G := G) ht tick
  have hu := tUp_spec (G := G) ht tick
  rw [e]
  clear e
  cases hU : t.up tick with
  | true =>
    rw [hU] at hu
    refine Spec.is C73ok rfl ?_
    simp only [push_cast, simprocAttr, ht, ITim.cells]
    refine hu.to ?_
    simp only [push_cast, simprocAttr, ht, ITim.cells]
    first | done | rfl
  | false =>
    rw [hU] at hu
    refine Spec.is C73ok rfl ?_
    simp only [push_cast, simprocAttr, ht, ITim.cells]
    refine hu.to ?_
    simp only [push_cast, simprocAttr, ht, ITim.cells]
    refine hn.to ?_
    simp only [push_cast, simprocAttr, ht, ITim.cells]
/-- Who calls. -/
def callsN (soft up ready : Bool) : BitVec 32 := (if soft then 8#32 else 0#32) ||| (if up then 128#32 else 0#32) ||| (if ready then 2048#32 else 0#32)
def IBus.calls (b : IBus) (tick : BitVec 64) : BitVec 32 := callsN b.t.soft (b.t.up tick) (decide (0 < b.c.rx.length))
section
variable {l : Plc} {c : ICpu} {M : IRam}
theorem Ready_spec (hm : MachAt H l c M) : Spec Tryz.prog G 94 [.ptr l.con 0] H (Is (.bool (decide (0 < c.bus.c.rx.length))) H) := by
  obtain ⟨v, hn, _⟩ := hm.hn
  have hl := fLen_spec (G := G) hm.hf
  refine Spec.is C94ok rfl ?_
  simp only [push_cast, simprocAttr, hn]
  refine hl.to ?_
  simp only [push_cast, simprocAttr]
  congr 1
  rw [Bool.eq_iff_iff]; simp
theorem busCalls_spec (hm : MachAt H l c M) (tick : BitVec 64) : Spec Tryz.prog G 70 [.ptr l.bus 0, .int .u64 tick.toNat] H (Is (.int .u32 (c.bus.calls tick).toNat) H) := by
  have hb := hm.hb
  have ht := hm.ht
  have hu := tUp_spec (G := G) hm.ht tick
  have hr := Ready_spec (G := G) hm
  have e : c.bus.calls tick = callsN c.bus.t.soft (c.bus.t.up tick) (decide (0 < c.bus.c.rx.length)) := rfl
  rw [e]
  clear e
  have hts : ∀ s, c.bus.t.soft = s → H l.tim = some ⟨[.int .u64 (c.bus.t.off.toNat : Int), .int .u64 (c.bus.t.mark.toNat : Int), .bool s], 0⟩ := fun s e => by rw [ht, ITim.cells, e]
  generalize c.bus.t.up tick = u at *
  generalize decide (0 < c.bus.c.rx.length) = rd at *
  cases hs : c.bus.t.soft <;>
  · have ht2 := hts _ hs
    refine Spec.is C70ok rfl ?_
    simp only [push_cast, simprocAttr, hb, ht2]
    refine hu.to ?_
    cases u <;>
    · simp only [push_cast, simprocAttr, hb]
      refine hr.to ?_
      cases rd <;>
      · first | (simp only [push_cast, simprocAttr]; done) | (simp only [push_cast, simprocAttr]; rfl) | rfl
theorem cBus_spec (hm : MachAt H l c M) : Spec Tryz.prog G 10 [.ptr l.p 0] H (Is (.ptr l.bus 0) H) := by
  obtain ⟨v, hc, _⟩ := hm.hc
  refine Spec.is C10ok rfl ?_
  simp only [push_cast, simprocAttr, hc]
theorem bTimer_spec (hm : MachAt H l c M) : Spec Tryz.prog G 23 [.ptr l.bus 0] H (Is (.ptr l.tim 0) H) := by
  have hb := hm.hb
  refine Spec.is C23ok rfl ?_
  simp only [push_cast, simprocAttr, hb]
theorem bRam_spec (hm : MachAt H l c M) : Spec Tryz.prog G 21 [.ptr l.bus 0] H (Is (.ptr l.ram.p 0) H) := by
  have hb := hm.hb
  refine Spec.is C21ok rfl ?_
  simp only [push_cast, simprocAttr, hb]
theorem bCon_spec (hm : MachAt H l c M) : Spec Tryz.prog G 71 [.ptr l.bus 0] H (Is (.ptr l.con 0) H) := by
  have hb := hm.hb
  refine Spec.is C71ok rfl ?_
  simp only [push_cast, simprocAttr, hb]
theorem bOff_spec (hm : MachAt H l c M) : Spec Tryz.prog G 44 [.ptr l.bus 0] H (Is (.tup [.int .u32 c.bus.code.toNat, .bool c.bus.off]) H) := by
  have hb := hm.hb
  refine Spec.is C44ok rfl ?_
  simp only [push_cast, simprocAttr, hb]
/-- When the next byte comes. -/
def ICon.next (n : ICon) : BitVec 64 × Bool := if n.came < n.l.length then ((n.l.getD n.came IArr.zero).tick, true) else (0, false)
theorem Next_spec (hm : MachAt H l c M) : Spec Tryz.prog G 72 [.ptr l.con 0] H (Is (.tup [.int .u64 (c.bus.c.next).1.toNat, .bool (c.bus.c.next).2]) H) := by
  obtain ⟨v, hn, _⟩ := hm.hn
  have hcm := hm.came
  have hl := hm.hl
  have e : c.bus.c.next = if c.bus.c.came < c.bus.c.l.length then ((c.bus.c.l.getD c.bus.c.came IArr.zero).tick, true) else (0, false) := rfl
  rw [e]
  clear e
  by_cases hlt : c.bus.c.came < c.bus.c.l.length
  · have z : ((c.bus.c.came : Int) == (c.bus.c.l.length : Int)) = false := by rw [beq_eq_false_iff_ne]; omega
    have z2 : (c.bus.c.came = c.bus.c.l.length) = False := by simp; omega
    rw [if_pos hlt]
    refine Spec.is C72ok rfl ?_
    simp (disch := omega) only [push_cast, simprocAttr, wrap_i64, toNat_ofInt64, Nat.min_eq_left, Int.toNat_of_nonneg, hn, z, z2, hlt]
  · have z : ((c.bus.c.came : Int) == (c.bus.c.l.length : Int)) = true := by rw [beq_iff_eq]; omega
    have z2 : (c.bus.c.came = c.bus.c.l.length) = True := by simp; omega
    rw [if_neg hlt]
    refine Spec.is C72ok rfl ?_
    simp only [push_cast, simprocAttr, hn, z, z2]
    first | done | rfl
end
end Go.Ab
end
section
/- For how long nobody is heard: the program's. -/
set_option linter.unusedSimpArgs false
set_option linter.unusedVariables false
set_option maxRecDepth 10000
namespace Go.Ab
open Go.Proofs
variable {G : Glo} {H : Heap}
def wakesN (k : Kp) (calls : BitVec 32) : Bool := decide (calls &&& k.ie &&& 2184#32 ≠ 0#32)
theorem kp_wds (k : Kp) : wds k.l = [.int .u32 (k.st.toNat : Int), .int .u32 (k.ie.toNat : Int), .int .u32 (k.tv.toNat : Int), .int .u32 (k.sc.toNat : Int), .int .u32 (k.ep.toNat : Int), .int .u32 (k.ca.toNat : Int), .int .u32 (k.tl.toNat : Int)] := rfl
theorem bne32 (x : BitVec 32) : ((x.toNat : Int) != 0) = decide (x ≠ 0#32) := by
  rw [Bool.eq_iff_iff]; simp only [bne_iff_ne, decide_eq_true_eq, ne_eq]
  constructor
  · intro h e; rw [e] at h; exact h rfl
  · intro h e; exact h (BitVec.eq_of_toNat_eq (by simpa using e))
theorem beq32 (x : BitVec 32) : ((x.toNat : Int) == 0) = decide (x = 0#32) := by
  have := bne32 x
  rw [bne] at this
  cases h : ((x.toNat : Int) == 0) <;> simp_all
theorem bvz (x : BitVec 32) : ((x.toNat : Int) = 0) = (x = 0#32) := by
  rw [eq_iff_iff]
  constructor
  · intro h; exact BitVec.eq_of_toNat_eq (by simpa using h)
  · rintro rfl; rfl
theorem Wakes_spec (k : Kp) (calls : BitVec 32) : Spec Tryz.prog G 74 [.agg (wds k.l), .int .u32 calls.toNat] H (Is (.bool (wakesN k calls)) H) := by
  have e : wakesN k calls = decide (calls &&& k.ie &&& 2184#32 ≠ 0#32) := rfl
  rw [e, kp_wds]
  refine Spec.is C74ok rfl ?_
  simp only [push_cast, simprocAttr, bne32]
/-- For how long nobody can be heard. -/
def neverB : BitVec 64 := 18446744073709551615#64
theorem neverB_v : (neverB.toNat : Int) = 18446744073709551615 := rfl
def minB (a b : BitVec 64) : BitVec 64 := if b.toNat < a.toNat then b else a
theorem minB_toNat (a b : BitVec 64) : (minB a b).toNat = min a.toNat b.toNat := by unfold minB; split <;> omega
theorem minB_v (a b : BitVec 64) : ((minB a b).toNat : Int) = min (a.toNat : Int) (b.toNat : Int) := by rw [minB_toNat]; omega
theorem min_n (b : BitVec 64) : ((minB neverB b).toNat : Int) = min (18446744073709551615 : Int) (b.toNat : Int) := by rw [minB_v, neverB_v]
theorem subB_v (a b : BitVec 64) : ((a - minB a b).toNat : Int) = (a.toNat : Int) - min (a.toNat : Int) (b.toNat : Int) := by
  have h := minB_toNat a b
  rw [BitVec.toNat_sub_of_le (by rw [BitVec.le_def]; omega)]
  omega
def mI (a b : Int) : Int := if b < a then b else a
def subI (a b : BitVec 64) : Int := ((a - BitVec.ofInt 64 (if b.toNat < a.toNat then (b.toNat : Int) else (a.toNat : Int))).toNat : Int)
theorem subI_v (a b : BitVec 64) : subI a b = (a.toNat : Int) - min (a.toNat : Int) (b.toNat : Int) := by
  have h : (if b.toNat < a.toNat then (b.toNat : Int) else (a.toNat : Int)) = ((minB a b).toNat : Int) := by rw [minB_toNat]; split <;> omega
  have e : BitVec.ofInt 64 ((minB a b).toNat : Int) = minB a b := by rw [BitVec.ofInt_natCast]; simp
  rw [subI, h, e, subB_v]
theorem mI_v (a b : Int) : mI a b = min a b := by unfold mI; split <;> omega
section
variable {l : Plc} {c : ICpu} {M : IRam}
theorem quiet_off (hm : MachAt H l c M) (h8 : c.f.k.st &&& 8#32 = 0#32) : Spec Tryz.prog G 45 [.ptr l.p 0] H (Is (.int .u64 18446744073709551615) H) := by
  obtain ⟨v, hc, _⟩ := hm.hc
  have hk := kp_wds c.f.k
  refine Spec.is C45ok rfl ?_
  simp only [push_cast, simprocAttr, hc, hk]
  intro c3 hc3
  simp only [push_cast, simprocAttr, bvz, h8, hc]
  first | exact ⟨rfl, by rw [era_none hc3]; exact Sub.refl H⟩ | (rw [era_none hc3]; simp only [push_cast, simprocAttr])
theorem quiet_b (hm : MachAt H l c M) {nv : Int} (hnv : nv = 18446744073709551615) (h8 : ¬ c.f.k.st &&& 8#32 = 0#32) (h11 : c.f.k.ie &&& 2048#32 = 0#32) (h7 : c.f.k.ie &&& 128#32 = 0#32) : Spec Tryz.prog G 45 [.ptr l.p 0] H (Is (.int .u64 (if wakesN c.f.k (c.bus.calls c.tick) then 0 else nv)) H) := by
  obtain ⟨v, hc, _⟩ := hm.hc
  have hB := cBus_spec (G := G) hm
  have hC := busCalls_spec (G := G) hm c.tick
  have hCon := bCon_spec (G := G) hm
  have hNx := Next_spec (G := G) hm
  have hT := bTimer_spec (G := G) hm
  have hL := tLeft_spec (G := G) hm.ht c.tick
  have hW := Wakes_spec (G := G) (H := H) c.f.k (c.bus.calls c.tick)
  have hk := kp_wds c.f.k
  rw [hk] at hW
  generalize c.bus.calls c.tick = calls at *
  generalize c.bus.t.left c.tick = lf at *
  generalize c.bus.c.next = nx at *
  obtain ⟨at_, ok⟩ := nx
  simp only at hNx
  generalize wakesN c.f.k calls = wk at *
  refine Spec.is C45ok rfl ?_
  simp only [push_cast, simprocAttr, hc, hk]
  intro c3 hc3
  rw [era_none hc3]
  simp only [push_cast, simprocAttr, bvz, h8, hc]
  refine hB.to ?_
  simp only [push_cast, simprocAttr, hc]
  refine hC.to ?_
  simp only [push_cast, simprocAttr, hc]
  rw [← hnv]
  refine hB.to ?_
  simp only [push_cast, simprocAttr, hc]
  refine hCon.to ?_
  simp only [push_cast, simprocAttr, hc]
  refine hNx.to ?_
  cases ok <;>
  · simp only [push_cast, simprocAttr, bvz, h11, h7, hc]
    refine hW.to ?_
    cases wk <;>
    · simp only [push_cast, simprocAttr, mI, subI]
theorem quiet_c (hm : MachAt H l c M) {nv : Int} (hnv : nv = 18446744073709551615) (h8 : ¬ c.f.k.st &&& 8#32 = 0#32) (h11 : c.f.k.ie &&& 2048#32 = 0#32) (h7 : ¬ c.f.k.ie &&& 128#32 = 0#32) : Spec Tryz.prog G 45 [.ptr l.p 0] H (Is (.int .u64 (if wakesN c.f.k (c.bus.calls c.tick) then 0 else mI nv ((c.bus.t.left c.tick).toNat : Int))) H) := by
  obtain ⟨v, hc, _⟩ := hm.hc
  have hB := cBus_spec (G := G) hm
  have hC := busCalls_spec (G := G) hm c.tick
  have hCon := bCon_spec (G := G) hm
  have hNx := Next_spec (G := G) hm
  have hT := bTimer_spec (G := G) hm
  have hL := tLeft_spec (G := G) hm.ht c.tick
  have hW := Wakes_spec (G := G) (H := H) c.f.k (c.bus.calls c.tick)
  have hk := kp_wds c.f.k
  rw [hk] at hW
  generalize c.bus.calls c.tick = calls at *
  generalize c.bus.t.left c.tick = lf at *
  generalize c.bus.c.next = nx at *
  obtain ⟨at_, ok⟩ := nx
  simp only at hNx
  generalize wakesN c.f.k calls = wk at *
  refine Spec.is C45ok rfl ?_
  simp only [push_cast, simprocAttr, hc, hk]
  intro c3 hc3
  rw [era_none hc3]
  simp only [push_cast, simprocAttr, bvz, h8, hc]
  refine hB.to ?_
  simp only [push_cast, simprocAttr, hc]
  refine hC.to ?_
  simp only [push_cast, simprocAttr, hc]
  rw [← hnv]
  refine hB.to ?_
  simp only [push_cast, simprocAttr, hc]
  refine hCon.to ?_
  simp only [push_cast, simprocAttr, hc]
  refine hNx.to ?_
  cases ok <;>
  · simp only [push_cast, simprocAttr, bvz, h11, h7, hc]
    refine hB.to ?_
    simp only [push_cast, simprocAttr, hc]
    refine hT.to ?_
    simp only [push_cast, simprocAttr, hc]
    refine hL.to ?_
    simp only [push_cast, simprocAttr, hc]
    refine hW.to ?_
    cases wk <;>
    · simp only [push_cast, simprocAttr, mI, subI]
theorem quiet_d (hm : MachAt H l c M) {nv : Int} (hnv : nv = 18446744073709551615) (h8 : ¬ c.f.k.st &&& 8#32 = 0#32) (hok : c.bus.c.next.2 = false) (h7 : c.f.k.ie &&& 128#32 = 0#32) : Spec Tryz.prog G 45 [.ptr l.p 0] H (Is (.int .u64 (if wakesN c.f.k (c.bus.calls c.tick) then 0 else nv)) H) := by
  obtain ⟨v, hc, _⟩ := hm.hc
  have hB := cBus_spec (G := G) hm
  have hC := busCalls_spec (G := G) hm c.tick
  have hCon := bCon_spec (G := G) hm
  have hNx := Next_spec (G := G) hm
  have hT := bTimer_spec (G := G) hm
  have hL := tLeft_spec (G := G) hm.ht c.tick
  have hW := Wakes_spec (G := G) (H := H) c.f.k (c.bus.calls c.tick)
  have hk := kp_wds c.f.k
  rw [hk] at hW
  generalize c.bus.calls c.tick = calls at *
  generalize c.bus.t.left c.tick = lf at *
  generalize c.bus.c.next = nx at *
  obtain ⟨at_, ok⟩ := nx
  simp only at hNx hok
  generalize wakesN c.f.k calls = wk at *
  refine Spec.is C45ok rfl ?_
  simp only [push_cast, simprocAttr, hc, hk]
  intro c3 hc3
  rw [era_none hc3]
  simp only [push_cast, simprocAttr, bvz, h8, hc]
  refine hB.to ?_
  simp only [push_cast, simprocAttr, hc]
  refine hC.to ?_
  simp only [push_cast, simprocAttr, hc]
  rw [← hnv]
  refine hB.to ?_
  simp only [push_cast, simprocAttr, hc]
  refine hCon.to ?_
  simp only [push_cast, simprocAttr, hc]
  refine hNx.to ?_
  subst hok
  simp only [push_cast, simprocAttr, bvz, h7, hc]
  refine hW.to ?_
  cases wk <;>
  · simp only [push_cast, simprocAttr, mI, subI]
theorem quiet_e (hm : MachAt H l c M) {nv : Int} (hnv : nv = 18446744073709551615) (h8 : ¬ c.f.k.st &&& 8#32 = 0#32) (hok : c.bus.c.next.2 = false) (h7 : ¬ c.f.k.ie &&& 128#32 = 0#32) : Spec Tryz.prog G 45 [.ptr l.p 0] H (Is (.int .u64 (if wakesN c.f.k (c.bus.calls c.tick) then 0 else mI nv ((c.bus.t.left c.tick).toNat : Int))) H) := by
  obtain ⟨v, hc, _⟩ := hm.hc
  have hB := cBus_spec (G := G) hm
  have hC := busCalls_spec (G := G) hm c.tick
  have hCon := bCon_spec (G := G) hm
  have hNx := Next_spec (G := G) hm
  have hT := bTimer_spec (G := G) hm
  have hL := tLeft_spec (G := G) hm.ht c.tick
  have hW := Wakes_spec (G := G) (H := H) c.f.k (c.bus.calls c.tick)
  have hk := kp_wds c.f.k
  rw [hk] at hW
  generalize c.bus.calls c.tick = calls at *
  generalize c.bus.t.left c.tick = lf at *
  generalize c.bus.c.next = nx at *
  obtain ⟨at_, ok⟩ := nx
  simp only at hNx hok
  generalize wakesN c.f.k calls = wk at *
  refine Spec.is C45ok rfl ?_
  simp only [push_cast, simprocAttr, hc, hk]
  intro c3 hc3
  rw [era_none hc3]
  simp only [push_cast, simprocAttr, bvz, h8, hc]
  refine hB.to ?_
  simp only [push_cast, simprocAttr, hc]
  refine hC.to ?_
  simp only [push_cast, simprocAttr, hc]
  rw [← hnv]
  refine hB.to ?_
  simp only [push_cast, simprocAttr, hc]
  refine hCon.to ?_
  simp only [push_cast, simprocAttr, hc]
  refine hNx.to ?_
  subst hok
  simp only [push_cast, simprocAttr, bvz, h7, hc]
  refine hB.to ?_
  simp only [push_cast, simprocAttr, hc]
  refine hT.to ?_
  simp only [push_cast, simprocAttr, hc]
  refine hL.to ?_
  simp only [push_cast, simprocAttr, hc]
  refine hW.to ?_
  cases wk <;>
  · simp only [push_cast, simprocAttr, mI, subI]
theorem quiet_f (hm : MachAt H l c M) {nv : Int} (hnv : nv = 18446744073709551615) (h8 : ¬ c.f.k.st &&& 8#32 = 0#32) (hok : c.bus.c.next.2 = true) (h11 : ¬ c.f.k.ie &&& 2048#32 = 0#32) (h7 : c.f.k.ie &&& 128#32 = 0#32) : Spec Tryz.prog G 45 [.ptr l.p 0] H (Is (.int .u64 (if wakesN c.f.k (c.bus.calls c.tick) then 0 else subI (c.bus.c.next).1 c.tick)) H) := by
  obtain ⟨v, hc, _⟩ := hm.hc
  have hB := cBus_spec (G := G) hm
  have hC := busCalls_spec (G := G) hm c.tick
  have hCon := bCon_spec (G := G) hm
  have hNx := Next_spec (G := G) hm
  have hT := bTimer_spec (G := G) hm
  have hL := tLeft_spec (G := G) hm.ht c.tick
  have hW := Wakes_spec (G := G) (H := H) c.f.k (c.bus.calls c.tick)
  have hk := kp_wds c.f.k
  rw [hk] at hW
  generalize c.bus.calls c.tick = calls at *
  generalize c.bus.t.left c.tick = lf at *
  generalize c.bus.c.next = nx at *
  obtain ⟨at_, ok⟩ := nx
  simp only at hNx hok
  generalize wakesN c.f.k calls = wk at *
  refine Spec.is C45ok rfl ?_
  simp only [push_cast, simprocAttr, hc, hk]
  intro c3 hc3
  rw [era_none hc3]
  simp only [push_cast, simprocAttr, bvz, h8, hc]
  refine hB.to ?_
  simp only [push_cast, simprocAttr, hc]
  refine hC.to ?_
  simp only [push_cast, simprocAttr, hc]
  rw [← hnv]
  refine hB.to ?_
  simp only [push_cast, simprocAttr, hc]
  refine hCon.to ?_
  simp only [push_cast, simprocAttr, hc]
  refine hNx.to ?_
  subst hok
  simp only [push_cast, simprocAttr, bvz, h11, h7, hc]
  refine hW.to ?_
  cases wk <;>
  · simp only [push_cast, simprocAttr, mI, subI]
theorem quiet_g (hm : MachAt H l c M) {nv : Int} (hnv : nv = 18446744073709551615) (h8 : ¬ c.f.k.st &&& 8#32 = 0#32) (hok : c.bus.c.next.2 = true) (h11 : ¬ c.f.k.ie &&& 2048#32 = 0#32) (h7 : ¬ c.f.k.ie &&& 128#32 = 0#32) : Spec Tryz.prog G 45 [.ptr l.p 0] H (Is (.int .u64 (if wakesN c.f.k (c.bus.calls c.tick) then 0 else mI (subI (c.bus.c.next).1 c.tick) ((c.bus.t.left c.tick).toNat : Int))) H) := by
  obtain ⟨v, hc, _⟩ := hm.hc
  have hB := cBus_spec (G := G) hm
  have hC := busCalls_spec (G := G) hm c.tick
  have hCon := bCon_spec (G := G) hm
  have hNx := Next_spec (G := G) hm
  have hT := bTimer_spec (G := G) hm
  have hL := tLeft_spec (G := G) hm.ht c.tick
  have hW := Wakes_spec (G := G) (H := H) c.f.k (c.bus.calls c.tick)
  have hk := kp_wds c.f.k
  rw [hk] at hW
  generalize c.bus.calls c.tick = calls at *
  generalize c.bus.t.left c.tick = lf at *
  generalize c.bus.c.next = nx at *
  obtain ⟨at_, ok⟩ := nx
  simp only at hNx hok
  generalize wakesN c.f.k calls = wk at *
  refine Spec.is C45ok rfl ?_
  simp only [push_cast, simprocAttr, hc, hk]
  intro c3 hc3
  rw [era_none hc3]
  simp only [push_cast, simprocAttr, bvz, h8, hc]
  refine hB.to ?_
  simp only [push_cast, simprocAttr, hc]
  refine hC.to ?_
  simp only [push_cast, simprocAttr, hc]
  rw [← hnv]
  refine hB.to ?_
  simp only [push_cast, simprocAttr, hc]
  refine hCon.to ?_
  simp only [push_cast, simprocAttr, hc]
  refine hNx.to ?_
  subst hok
  simp only [push_cast, simprocAttr, bvz, h11, h7, hc]
  refine hB.to ?_
  simp only [push_cast, simprocAttr, hc]
  refine hT.to ?_
  simp only [push_cast, simprocAttr, hc]
  refine hL.to ?_
  simp only [push_cast, simprocAttr, hc]
  refine hW.to ?_
  cases wk <;>
  · simp only [push_cast, simprocAttr, mI, subI]
/-- The time of quiet. -/
def ICpu.quiet (c : ICpu) : Int :=
  if c.f.k.st &&& 8#32 = 0#32 then 18446744073709551615 else if wakesN c.f.k (c.bus.calls c.tick) then 0 else
    let a : Int := if c.bus.c.next.2 = true ∧ ¬ c.f.k.ie &&& 2048#32 = 0#32 then subI c.bus.c.next.1 c.tick else 18446744073709551615
    if c.f.k.ie &&& 128#32 = 0#32 then a else mI a ((c.bus.t.left c.tick).toNat : Int)
theorem quiet_spec (hm : MachAt H l c M) : Spec Tryz.prog G 45 [.ptr l.p 0] H (Is (.int .u64 c.quiet) H) := by
  obtain ⟨nv, hnv⟩ : ∃ nv : Int, nv = 18446744073709551615 := ⟨_, rfl⟩
  unfold ICpu.quiet
  by_cases h8 : c.f.k.st &&& 8#32 = 0#32
  · rw [if_pos h8]; exact quiet_off hm h8
  rw [if_neg h8, ← hnv]
  by_cases h7 : c.f.k.ie &&& 128#32 = 0#32
  · rw [if_pos h7]
    by_cases h11 : c.f.k.ie &&& 2048#32 = 0#32
    · rw [if_neg (c := c.bus.c.next.2 = true ∧ ¬ c.f.k.ie &&& 2048#32 = 0#32) (fun h => h.2 h11)]; exact quiet_b hm hnv h8 h11 h7
    · by_cases hok : c.bus.c.next.2 = true
      · rw [if_pos (c := c.bus.c.next.2 = true ∧ ¬ c.f.k.ie &&& 2048#32 = 0#32) ⟨hok, h11⟩]; exact quiet_f hm hnv h8 hok h11 h7
      · rw [Bool.not_eq_true] at hok; rw [if_neg (c := c.bus.c.next.2 = true ∧ ¬ c.f.k.ie &&& 2048#32 = 0#32) (by simp [hok])]; exact quiet_d hm hnv h8 hok h7
  · rw [if_neg h7]
    by_cases h11 : c.f.k.ie &&& 2048#32 = 0#32
    · rw [if_neg (c := c.bus.c.next.2 = true ∧ ¬ c.f.k.ie &&& 2048#32 = 0#32) (fun h => h.2 h11)]; exact quiet_c hm hnv h8 h11 h7
    · by_cases hok : c.bus.c.next.2 = true
      · rw [if_pos (c := c.bus.c.next.2 = true ∧ ¬ c.f.k.ie &&& 2048#32 = 0#32) ⟨hok, h11⟩]; exact quiet_g hm hnv h8 hok h11 h7
      · rw [Bool.not_eq_true] at hok; rw [if_neg (c := c.bus.c.next.2 = true ∧ ¬ c.f.k.ie &&& 2048#32 = 0#32) (by simp [hok])]; exact quiet_e hm hnv h8 hok h7
end
end Go.Ab
end
section
/- The document's memory: asked, and loaded. -/
set_option linter.unusedSimpArgs false
set_option linter.unusedVariables false
set_option maxRecDepth 10000
namespace Go.Ab
open Go.Proofs
variable {G : Glo} {h : Heap}
theorem rHas_spec (b : List (BitVec 8)) (addr : BitVec 32) (n : Int) (hb : b.length ≤ 65536) (hn : n ≤ 9223372036854775807) (hn0 : -9223372036854775808 ≤ n) : Spec Tryz.prog G 82 [byt b, .int .u32 addr.toNat, .int .i64 n] h (Is (.bool (hasN b.length addr n)) h) := by
  have hN : hasN b.length addr n = (decide (1 ≤ n) && decide (n ≤ b.length) && decide (2147483648 ≤ addr.toNat) && decide ((addr.toNat : Int) - 2147483648 ≤ b.length - n)) := rfl
  generalize hasN b.length addr n = N at hN ⊢
  have hlt := addr.isLt
  refine Spec.is C82ok rfl ?_
  simp (disch := omega) only [push_cast, simprocAttr, wrap_i64, toNat_ofInt64, Nat.min_eq_left, Int.toNat_of_nonneg, byt]
  rw [hN]
  by_cases h1 : 1 ≤ n
  · rw [wrap_i64 (by omega) (by omega)]
    (first | rfl | (congr 1; done) | (congr 1; rw [Bool.eq_iff_iff]; simp only [Bool.and_eq_true, Bool.or_eq_true, Bool.not_eq_true', decide_eq_true_eq, decide_eq_false_iff_not, Bool.false_eq_true, true_and, and_true]; first | omega | grind))
  · have h2 : ¬ n ≥ 1 := h1
    simp [h1, h2]
end Go.Ab
end
section
/- Contracts: small ones of blocks. -/
set_option linter.unusedSimpArgs false
set_option linter.unusedVariables false
namespace Go.Ab
open Go.Proofs
variable {G : Glo} {h : Heap}
theorem rHas7_spec (n : Int) : Spec Tryz.prog G 62 [.int .i64 n] h (Is (.bool (decide (19 ≤ n) && decide (n ≤ 37))) h) := by
  refine Spec.is C62ok rfl ?_
  simp only [push_cast, simprocAttr]
theorem rHas8_spec (n : Int) : Spec Tryz.prog G 63 [.int .i64 n] h (Is (.bool (decide (50 ≤ n) && decide (n ≤ 57))) h) := by
  refine Spec.is C63ok rfl ?_
  simp only [push_cast, simprocAttr]
theorem aHas_spec (n : Int) : Spec Tryz.prog G 112 [.int .i64 n] h (Is (.bool (decide (19 ≤ n) && decide (n ≤ 37))) h) := by
  refine Spec.is C112ok rfl ?_
  simp only [push_cast, simprocAttr]
theorem mHas_spec (n : Int) : Spec Tryz.prog G 113 [.int .i64 n] h (Is (.bool (decide (50 ≤ n) && decide (n ≤ 57))) h) := by
  refine Spec.is C113ok rfl ?_
  simp only [push_cast, simprocAttr]
theorem rReckons_spec (n : Int) : Spec Tryz.prog G 32 [.int .i64 n] h (Is (.bool (reckonsN n)) h) := by
  refine Spec.is C32ok rfl ?_
  simp only [push_cast, simprocAttr]
  refine (rHas7_spec n).to ?_
  simp only [push_cast, simprocAttr, reckonsN]
  refine ⟨fun h1 => (rHas8_spec n).to ?_, fun h1 => ?_⟩
  · simp only [push_cast, simprocAttr]
    rw [h1]; rfl
  · (first | rfl | (congr 1; done) | (congr 1; rw [Bool.eq_iff_iff]; simp only [Bool.and_eq_true, Bool.or_eq_true, Bool.not_eq_true', decide_eq_true_eq, decide_eq_false_iff_not, Bool.false_eq_true, true_and, and_true]; first | omega | grind))
theorem Reckons_spec (n : Int) : Spec Tryz.prog G 99 [.int .i64 n] h (Is (.bool (reckonsN n)) h) := by
  refine Spec.is C99ok rfl ?_
  simp only [push_cast, simprocAttr]
  refine (aHas_spec n).to ?_
  simp only [push_cast, simprocAttr, reckonsN]
  refine ⟨fun h1 => (mHas_spec n).to ?_, fun h1 => ?_⟩
  · simp only [push_cast, simprocAttr]
    rw [h1]; rfl
  · (first | rfl | (congr 1; done) | (congr 1; rw [Bool.eq_iff_iff]; simp only [Bool.and_eq_true, Bool.or_eq_true, Bool.not_eq_true', decide_eq_true_eq, decide_eq_false_iff_not, Bool.false_eq_true, true_and, and_true]; first | omega | grind))
theorem rLoads_spec (n : Int) : Spec Tryz.prog G 34 [.int .i64 n] h (Is (.int .i64 (loadsN n)) h) := by
  refine Spec.is C34ok rfl ?_
  simp only [push_cast, simprocAttr, loadsN]
  grind
theorem Loads_spec (n : Int) : Spec Tryz.prog G 96 [.int .i64 n] h (Is (.int .i64 (loadsN n)) h) := by
  refine Spec.is C96ok rfl ?_
  simp only [push_cast, simprocAttr, loadsN]
  (repeat' (first | apply And.intro | intro _)) <;> simp_all
theorem rStores_spec (n : Int) : Spec Tryz.prog G 35 [.int .i64 n] h (Is (.int .i64 (storesN n)) h) := by
  refine Spec.is C35ok rfl ?_
  simp only [push_cast, simprocAttr, storesN]
  grind
theorem Stores_spec (n : Int) : Spec Tryz.prog G 98 [.int .i64 n] h (Is (.int .i64 (storesN n)) h) := by
  refine Spec.is C98ok rfl ?_
  simp only [push_cast, simprocAttr, storesN]
  grind
theorem Valued_spec (n : Int) : Spec Tryz.prog G 118 [.int .i64 n] h (Is (.bool (decide (1 ≤ n) && decide (n ≤ 4))) h) := by
  refine Spec.is C118ok rfl ?_
  simp only [push_cast, simprocAttr]
theorem rValue_spec (b : IBk) (n ahead : Int) : Spec Tryz.prog G 33 [.agg b.cells, .int .i64 n, .int .i64 ahead] h (Is (.bool (b.val n ahead)) h) := by
  refine Spec.is C33ok rfl ?_
  simp only [push_cast, simprocAttr]
  refine ⟨fun h1 => ?_, fun h1 => ?_⟩
  · have e : n.toNat < b.ops.length := by omega
    refine ⟨by omega, e, fun h2 => ⟨by omega, e, ?_⟩, fun h2 => ?_⟩
    all_goals simp only [IBk.val, IBk.op]
    · (first | rfl | (congr 1; done) | (congr 1; rw [Bool.eq_iff_iff]; simp only [Bool.and_eq_true, Bool.or_eq_true, Bool.not_eq_true', decide_eq_true_eq, decide_eq_false_iff_not, Bool.false_eq_true, true_and, and_true]; first | omega | grind))
    · (first | rfl | (congr 1; done) | (congr 1; rw [Bool.eq_iff_iff]; simp only [Bool.and_eq_true, Bool.or_eq_true, Bool.not_eq_true', decide_eq_true_eq, decide_eq_false_iff_not, Bool.false_eq_true, true_and, and_true]; first | omega | grind))
  · simp only [IBk.val]; rw [h1]; rfl
theorem value_spec (b : IBk) (n ahead : Int) : Spec Tryz.prog G 106 [.agg [bkP b], .int .i64 n, .int .i64 ahead] h (Is (.bool (b.val n ahead)) h) := by
  refine Spec.is C106ok rfl ?_
  simp only [push_cast, simprocAttr, bkP]
  refine ⟨fun h1 => ⟨by omega, by omega, ?_⟩, fun h1 => ?_⟩
  · refine (Valued_spec _).to ?_
    simp only [push_cast, simprocAttr]
    simp only [IBk.val, IBk.op]
    (first | rfl | (congr 1; done) | (congr 1; rw [Bool.eq_iff_iff]; simp only [Bool.and_eq_true, Bool.or_eq_true, Bool.not_eq_true', decide_eq_true_eq, decide_eq_false_iff_not, Bool.false_eq_true, true_and, and_true]; first | omega | grind))
  · simp only [IBk.val]; rw [h1]; rfl
theorem getD_map {b : IBk} {n M : Nat} (hm : ∀ e ∈ b.exits, e.map.length ≤ M) : (b.exits.getD n IEx.zero).map.length ≤ M := by
  by_cases hn : n < b.exits.length
  · have : b.exits.getD n IEx.zero = b.exits[n] := by simp [hn]
    rw [this]
    exact hm _ (List.getElem_mem _)
  · have : b.exits.getD n IEx.zero = IEx.zero := by simp [Nat.not_lt.1 hn]
    rw [this]
    simp [IEx.zero]
theorem rexit_spec (b : IBk) (n ahead : Int) (hm : ∀ e ∈ b.exits, e.map.length ≤ 140737488355328) : Spec Tryz.prog G 16 [.agg b.cells, .int .i64 n, .int .i64 ahead] h (Is (.bool (b.exit n ahead)) h) := by
  refine Spec.is C16ok rfl ?_
  simp only [push_cast, simprocAttr]
  refine ⟨fun h1 => ?_, fun h1 => ⟨by omega, by omega, fun c hc => ?_⟩⟩
  · simp only [IBk.exit]
    (first | rfl | (congr 1; done) | (congr 1; rw [Bool.eq_iff_iff]; simp only [Bool.and_eq_true, Bool.or_eq_true, Bool.not_eq_true', decide_eq_true_eq, decide_eq_false_iff_not, Bool.false_eq_true, true_and, and_true]; first | omega | grind))
  · rw [era_none hc]
    have hl := getD_map (n := n.toNat) hm
    have hE : b.exit n ahead = ((decide ((b.ex n.toNat).to = -1) || b.val (b.ex n.toNat).to ahead) && allN (b.ex n.toNat).map.length fun i => b.val ((b.ex n.toNat).vl i).val ahead) := by
      simp only [IBk.exit]
      rw [decide_eq_true (by omega), decide_eq_true (by omega)]
      simp
    rw [hE]
    clear hE
    generalize hEx : b.ex n.toNat = e
    have hEy : b.exits.getD n.toNat IEx.zero = e := hEx
    rw [hEy] at hl ⊢
    refine lpc.rel [2, 3, 7, 8] (fun m ρ h' => ∃ k : Nat, m = e.map.length - k ∧ k ≤ e.map.length ∧ h = h' ∧ (∀ i, i < k → b.val (e.vl i).val ahead = true) ∧
      ρ = [(2, .int .i64 ahead), (3, .cp b.cells 0), (7, .cp e.cells 0), (8, .int .i64 (k : Int))]) ⟨_, 0, rfl, by omega, rfl, by intro i hi; omega, rfl⟩ ?_
    rintro m _ _ ⟨k, rfl, hk, rfl, hall, rfl⟩
    simp only [push_cast, simprocAttr]
    refine ⟨fun hk2 => ⟨by omega, by omega, (rValue_spec b _ ahead).to ?_⟩, fun hk2 => ?_⟩
    · simp (disch := omega) only [push_cast, simprocAttr, wrap_i64, toNat_ofInt64, Nat.min_eq_left, Int.toNat_of_nonneg]
      refine ⟨fun hv => ?_, fun hv => ?_⟩
      · rw [allN_false k hk2 hv, Bool.and_false]
      · refine ⟨_, _, by omega, .refl _, k + 1, rfl, by omega, rfl, fun i hi => ?_, rfl⟩
        by_cases hik : i = k
        · subst hik; exact hv
        · exact hall i (by omega)
    · obtain rfl : k = e.map.length := by omega
      rw [allN_true hall, Bool.and_true]
      refine ⟨fun h2 => (rValue_spec b _ ahead).to ?_, fun h2 => ?_⟩
      · simp only [push_cast, simprocAttr]
        rw [decide_eq_false h2, Bool.false_or]
      · rw [decide_eq_true h2, Bool.true_or]
theorem exitF_spec (b : IBk) (v : IVl) (ahead : Int) : Spec Tryz.prog G 109 [.agg v.cells, .cp [bkP b] 0, .cp [.int .i64 ahead] 0] h (Is (.bool (! b.val v.val ahead)) h) := by
  refine Spec.is C109ok rfl ?_
  simp only [push_cast, simprocAttr]
  refine (value_spec b _ ahead).to ?_
  simp only [push_cast, simprocAttr]
theorem indexV_spec (b : IBk) (l : List IVl) (ahead : Int) (hl : l.length ≤ 140737488355328) : Spec Tryz.prog G 119 [vls l, .fn 109 [] [.cp [bkP b] 0, .cp [.int .i64 ahead] 0]] h
    (fun r h' => h = h' ∧ ∃ j : Int, r = .int .i64 j ∧ (decide (j ≥ 0) = ! allN l.length fun i => b.val (l.getD i IVl.zero).val ahead)) := by
  refine Spec.drop (Spec.mono (Q := fun r h' => Sub h h' ∧ ∃ j : Int, r = .int .i64 j ∧ (decide (j ≥ 0) = ! allN l.length fun i => b.val (l.getD i IVl.zero).val ahead)) ?_ fun r h' hq => ⟨h, hq.1, rfl, hq.2⟩)
  refine Spec.walk C119ok rfl ?_
  simp only [push_cast, simprocAttr]
  refine lpc.rel [0, 1, 7, 8] (fun m ρ h' => ∃ k : Nat, m = l.length - k ∧ k ≤ l.length ∧ h = h' ∧ (∀ i, i < k → b.val (l.getD i IVl.zero).val ahead = true) ∧
    ρ = [(0, vls l), (1, .fn 109 [] [.cp [bkP b] 0, .cp [.int .i64 ahead] 0]), (7, .int .i64 (l.length : Int)), (8, .int .i64 (k : Int))]) ⟨_, 0, rfl, by omega, rfl, by intro i hi; omega, rfl⟩ ?_
  rintro m _ _ ⟨k, rfl, hk, rfl, hall, rfl⟩
  simp only [push_cast, simprocAttr]
  refine ⟨fun hk2 => ⟨hk2, hk2, ⟨_, C109ok.hf, rfl, rfl⟩, (exitF_spec b _ ahead).to ?_⟩, fun hk2 => ?_⟩
  · simp (disch := omega) only [push_cast, simprocAttr, wrap_i64, toNat_ofInt64, Nat.min_eq_left, Int.toNat_of_nonneg]
    refine ⟨fun hv => ?_, fun hv => ?_⟩
    · rw [allN_false k hk2 hv]
      refine ⟨(k : Int), rfl, by simp⟩
    · refine ⟨_, _, by omega, .refl _, k + 1, rfl, by omega, rfl, fun i hi => ?_, rfl⟩
      by_cases hik : i = k
      · subst hik; exact hv
      · exact hall i (by omega)
  · obtain rfl : k = l.length := by omega
    rw [allN_true hall]
    exact ⟨-1, rfl, rfl⟩
theorem containsV_spec (b : IBk) (l : List IVl) (ahead : Int) (hl : l.length ≤ 140737488355328) : Spec Tryz.prog G 108 [vls l, .fn 109 [] [.cp [bkP b] 0, .cp [.int .i64 ahead] 0]] h (Is (.bool (! allN l.length fun i => b.val (l.getD i IVl.zero).val ahead)) h) := by
  refine Spec.is C108ok rfl ?_
  simp only [push_cast, simprocAttr]
  refine (indexV_spec b l ahead hl).mono ?_
  rintro _ _ ⟨rfl, j, rfl, hj⟩
  simp only [push_cast, simprocAttr]
  rw [hj]
theorem exit_spec (b : IBk) (n ahead : Int) (hm : ∀ e ∈ b.exits, e.map.length ≤ 140737488355328) : Spec Tryz.prog G 92 [.agg [bkP b], .int .i64 n, .int .i64 ahead] h (Is (.bool (b.exit n ahead)) h) := by
  refine Spec.is C92ok rfl ?_
  simp only [push_cast, simprocAttr]
  refine ⟨fun h1 => ?_, fun h1 => ⟨by omega, by omega, fun c hc => ?_⟩⟩
  · simp only [IBk.exit]
    (first | rfl | (congr 1; done) | (congr 1; rw [Bool.eq_iff_iff]; simp only [Bool.and_eq_true, Bool.or_eq_true, Bool.not_eq_true', decide_eq_true_eq, decide_eq_false_iff_not, Bool.false_eq_true, true_and, and_true]; first | omega | grind))
  · rw [era_none hc]
    have hl := getD_map (n := n.toNat) hm
    have hE : b.exit n ahead = ((decide ((b.ex n.toNat).to = -1) || b.val (b.ex n.toNat).to ahead) && allN (b.ex n.toNat).map.length fun i => b.val ((b.ex n.toNat).vl i).val ahead) := by
      simp only [IBk.exit]
      rw [decide_eq_true (by omega), decide_eq_true (by omega)]
      simp
    rw [hE]
    clear hE
    generalize hEx : b.ex n.toNat = e
    have hEy : b.exits.getD n.toNat IEx.zero = e := hEx
    rw [hEy] at hl ⊢
    have hA : (allN e.map.length fun i => b.val (e.map.getD i IVl.zero).val ahead) = allN e.map.length fun i => b.val (e.vl i).val ahead := rfl
    refine ⟨fun h2 => (value_spec b _ ahead).to ?_, fun h2 => (containsV_spec b e.map ahead hl).to ?_⟩
    · simp only [push_cast, simprocAttr]
      refine ⟨fun h3 => ?_, fun h3 => (containsV_spec b e.map ahead hl).to ?_⟩
      · rw [decide_eq_false h2, h3]; rfl
      · simp only [push_cast, simprocAttr]
        rw [decide_eq_false h2, h3, hA, Bool.not_not]; rfl
    · simp only [push_cast, simprocAttr]
      rw [decide_eq_true h2, hA, Bool.not_not]; rfl
end Go.Ab
end
section
/- Contracts: what is right in a block. -/
set_option linter.unusedSimpArgs false
set_option linter.unusedVariables false
set_option maxRecDepth 10000
namespace Go.Ab
open Go.Proofs
variable {G : Glo} {h : Heap}
theorem opR_eq (b : IBk) (k : Nat) {o : IOp} (ho : b.ops.getD k IOp.zero = o) : b.opR k =
  if o.code = 1 then decide (1 ≤ (o.imm.toNat : Int)) && decide ((o.imm.toNat : Int) ≤ 31) && decide (o.x = 0) && decide (o.y = 0) && decide (o.a = 0) && decide (o.b = 0)
  else if o.code = 2 then decide (o.x = 0) && decide (o.y = 0) && decide (o.a = 0) && decide (o.b = 0)
  else if o.code = 3 then reckonsN o.imm.toNat && decide (o.x = 0) && decide (o.y = 0) && b.val o.a k && b.val o.b k
  else if o.code = 4 then decide (0 < loadsN o.imm.toNat) && decide (o.y = 0) && decide (o.b = 0) && b.val o.a k && b.exit o.x k
  else if o.code = 5 then decide (0 < storesN o.imm.toNat) && b.val o.a k && b.val o.b k && b.exit o.x k && b.exit o.y k
  else if o.code = 6 then decide (5 ≤ (o.imm.toNat : Int)) && decide ((o.imm.toNat : Int) ≤ 10) && decide (o.y = 0) && b.val o.a k && b.val o.b k && b.exit o.x k
  else false := by subst ho; rfl
theorem rop_spec (b : IBk) (k : Nat) (hk : k < b.ops.length) (hm : ∀ e ∈ b.exits, e.map.length ≤ 140737488355328) : Spec Tryz.prog G 14 [.agg b.cells, .int .i64 k] h (Is (.bool (b.opR k)) h) := by
  refine Spec.is C14ok rfl ?_
  simp only [push_cast, simprocAttr]
  refine ⟨hk, hk, fun c hc => ?_⟩
  rw [era_none hc]
  generalize ho : b.ops.getD k IOp.zero = o
  have hR := opR_eq b k ho
  generalize b.opR k = R at hR ⊢
  simp only [push_cast, simprocAttr]
  refine ⟨fun h1 => ?_, fun h1 => ⟨fun h2 => ?_, fun h2 => ⟨fun h3 => (rReckons_spec _).to ?_, fun h3 => ⟨fun h4 => (rLoads_spec _).to ?_, fun h4 => ⟨fun h5 => (rStores_spec _).to ?_, fun h5 => ⟨fun h6 => ?_, fun h6 => ?_⟩⟩⟩⟩⟩⟩
  · rw [if_pos h1] at hR
    rw [hR]
    (first | rfl | (congr 1; done) | (congr 1; rw [Bool.eq_iff_iff]; simp only [Bool.and_eq_true, Bool.or_eq_true, Bool.not_eq_true', decide_eq_true_eq, decide_eq_false_iff_not, Bool.false_eq_true, true_and, and_true]; first | omega | grind))
  · rw [if_neg h1, if_pos h2] at hR
    rw [hR]
    (first | rfl | (congr 1; done) | (congr 1; rw [Bool.eq_iff_iff]; simp only [Bool.and_eq_true, Bool.or_eq_true, Bool.not_eq_true', decide_eq_true_eq, decide_eq_false_iff_not, Bool.false_eq_true, true_and, and_true]; first | omega | grind))
  · rw [if_neg h1, if_neg h2, if_pos h3] at hR
    simp only [push_cast, simprocAttr]
    refine ⟨fun g1 => (rValue_spec b _ _).to ?_, fun g1 => ?_⟩
    · simp only [push_cast, simprocAttr]
      refine ⟨fun g2 => (rValue_spec b _ _).to ?_, fun g2 => ?_⟩
      · simp only [push_cast, simprocAttr]
        rw [hR]
        (first | rfl | (congr 1; done) | (congr 1; rw [Bool.eq_iff_iff]; simp only [Bool.and_eq_true, Bool.or_eq_true, Bool.not_eq_true', decide_eq_true_eq, decide_eq_false_iff_not, Bool.false_eq_true, true_and, and_true]; first | omega | grind))
      · rw [hR]
        (first | rfl | (congr 1; done) | (congr 1; rw [Bool.eq_iff_iff]; simp only [Bool.and_eq_true, Bool.or_eq_true, Bool.not_eq_true', decide_eq_true_eq, decide_eq_false_iff_not, Bool.false_eq_true, true_and, and_true]; first | omega | grind))
    · rw [hR]
      (first | rfl | (congr 1; done) | (congr 1; rw [Bool.eq_iff_iff]; simp only [Bool.and_eq_true, Bool.or_eq_true, Bool.not_eq_true', decide_eq_true_eq, decide_eq_false_iff_not, Bool.false_eq_true, true_and, and_true]; first | omega | grind))
  · rw [if_neg h1, if_neg h2, if_neg h3, if_pos h4] at hR
    simp only [push_cast, simprocAttr]
    refine ⟨fun g1 => (rValue_spec b _ _).to ?_, fun g1 => ?_⟩
    · simp only [push_cast, simprocAttr]
      refine ⟨fun g2 => (rexit_spec b _ _ hm).to ?_, fun g2 => ?_⟩
      · simp only [push_cast, simprocAttr]
        rw [hR]
        (first | rfl | (congr 1; done) | (congr 1; rw [Bool.eq_iff_iff]; simp only [Bool.and_eq_true, Bool.or_eq_true, Bool.not_eq_true', decide_eq_true_eq, decide_eq_false_iff_not, Bool.false_eq_true, true_and, and_true]; first | omega | grind))
      · rw [hR]
        (first | rfl | (congr 1; done) | (congr 1; rw [Bool.eq_iff_iff]; simp only [Bool.and_eq_true, Bool.or_eq_true, Bool.not_eq_true', decide_eq_true_eq, decide_eq_false_iff_not, Bool.false_eq_true, true_and, and_true]; first | omega | grind))
    · rw [hR]
      (first | rfl | (congr 1; done) | (congr 1; rw [Bool.eq_iff_iff]; simp only [Bool.and_eq_true, Bool.or_eq_true, Bool.not_eq_true', decide_eq_true_eq, decide_eq_false_iff_not, Bool.false_eq_true, true_and, and_true]; first | omega | grind))
  · rw [if_neg h1, if_neg h2, if_neg h3, if_neg h4, if_pos h5] at hR
    simp only [push_cast, simprocAttr]
    refine ⟨fun g1 => (rValue_spec b _ _).to ?_, fun g1 => ?_⟩
    · simp only [push_cast, simprocAttr]
      refine ⟨fun g2 => (rValue_spec b _ _).to ?_, fun g2 => ?_⟩
      · simp only [push_cast, simprocAttr]
        refine ⟨fun g3 => (rexit_spec b _ _ hm).to ?_, fun g3 => ?_⟩
        · simp only [push_cast, simprocAttr]
          refine ⟨fun g4 => (rexit_spec b _ _ hm).to ?_, fun g4 => ?_⟩
          · simp only [push_cast, simprocAttr]
            rw [hR]
            (first | rfl | (congr 1; done) | (congr 1; rw [Bool.eq_iff_iff]; simp only [Bool.and_eq_true, Bool.or_eq_true, Bool.not_eq_true', decide_eq_true_eq, decide_eq_false_iff_not, Bool.false_eq_true, true_and, and_true]; first | omega | grind))
          · rw [hR]
            (first | rfl | (congr 1; done) | (congr 1; rw [Bool.eq_iff_iff]; simp only [Bool.and_eq_true, Bool.or_eq_true, Bool.not_eq_true', decide_eq_true_eq, decide_eq_false_iff_not, Bool.false_eq_true, true_and, and_true]; first | omega | grind))
        · rw [hR]
          (first | rfl | (congr 1; done) | (congr 1; rw [Bool.eq_iff_iff]; simp only [Bool.and_eq_true, Bool.or_eq_true, Bool.not_eq_true', decide_eq_true_eq, decide_eq_false_iff_not, Bool.false_eq_true, true_and, and_true]; first | omega | grind))
      · rw [hR]
        (first | rfl | (congr 1; done) | (congr 1; rw [Bool.eq_iff_iff]; simp only [Bool.and_eq_true, Bool.or_eq_true, Bool.not_eq_true', decide_eq_true_eq, decide_eq_false_iff_not, Bool.false_eq_true, true_and, and_true]; first | omega | grind))
    · rw [hR]
      (first | rfl | (congr 1; done) | (congr 1; rw [Bool.eq_iff_iff]; simp only [Bool.and_eq_true, Bool.or_eq_true, Bool.not_eq_true', decide_eq_true_eq, decide_eq_false_iff_not, Bool.false_eq_true, true_and, and_true]; first | omega | grind))
  · rw [if_neg h1, if_neg h2, if_neg h3, if_neg h4, if_neg h5, if_pos h6] at hR
    refine ⟨fun g1 => (rValue_spec b _ _).to ?_, fun g1 => ?_⟩
    · simp only [push_cast, simprocAttr]
      refine ⟨fun g2 => (rValue_spec b _ _).to ?_, fun g2 => ?_⟩
      · simp only [push_cast, simprocAttr]
        refine ⟨fun g3 => (rexit_spec b _ _ hm).to ?_, fun g3 => ?_⟩
        · simp only [push_cast, simprocAttr]
          rw [hR]
          (first | rfl | (congr 1; done) | (congr 1; rw [Bool.eq_iff_iff]; simp only [Bool.and_eq_true, Bool.or_eq_true, Bool.not_eq_true', decide_eq_true_eq, decide_eq_false_iff_not, Bool.false_eq_true, true_and, and_true]; first | omega | grind))
        · rw [hR]
          (first | rfl | (congr 1; done) | (congr 1; rw [Bool.eq_iff_iff]; simp only [Bool.and_eq_true, Bool.or_eq_true, Bool.not_eq_true', decide_eq_true_eq, decide_eq_false_iff_not, Bool.false_eq_true, true_and, and_true]; first | omega | grind))
      · rw [hR]
        (first | rfl | (congr 1; done) | (congr 1; rw [Bool.eq_iff_iff]; simp only [Bool.and_eq_true, Bool.or_eq_true, Bool.not_eq_true', decide_eq_true_eq, decide_eq_false_iff_not, Bool.false_eq_true, true_and, and_true]; first | omega | grind))
    · rw [hR]
      (first | rfl | (congr 1; done) | (congr 1; rw [Bool.eq_iff_iff]; simp only [Bool.and_eq_true, Bool.or_eq_true, Bool.not_eq_true', decide_eq_true_eq, decide_eq_false_iff_not, Bool.false_eq_true, true_and, and_true]; first | omega | grind))
  · rw [if_neg h1, if_neg h2, if_neg h3, if_neg h4, if_neg h5, if_neg h6] at hR
    rw [hR]
theorem kind_spec (o : IOp) : Spec Tryz.prog G 103 [.agg o.cells] h (Is (.bool (kindN o)) h) := by
  refine Spec.is C103ok rfl ?_
  simp only [push_cast, simprocAttr]
  unfold kindN
  refine ⟨fun h1 => ?_, fun h1 => ⟨fun h2 => ?_, fun h2 => ⟨fun h3 => (Reckons_spec _).to ?_, fun h3 => ⟨fun h4 => (Loads_spec _).to ?_, fun h4 => ⟨fun h5 => (Stores_spec _).to ?_, fun h5 => ⟨fun h6 => ?_, fun h6 => ?_⟩⟩⟩⟩⟩⟩
  · rw [if_pos h1]
  · rw [if_neg h1, if_pos h2]
  · simp only [push_cast, simprocAttr]
    rw [if_neg h1, if_neg h2, if_pos h3]
  · simp only [push_cast, simprocAttr]
    rw [if_neg h1, if_neg h2, if_neg h3, if_pos h4]
  · simp only [push_cast, simprocAttr]
    rw [if_neg h1, if_neg h2, if_neg h3, if_neg h4, if_pos h5]
  · rw [if_neg h1, if_neg h2, if_neg h3, if_neg h4, if_neg h5, if_pos h6]
  · rw [if_neg h1, if_neg h2, if_neg h3, if_neg h4, if_neg h5, if_neg h6]
def namedN (o : IOp) : Bool := if o.code = 5 then true else if o.code = 6 then decide (o.y = 0) else if o.code = 3 then decide (o.x = 0) && decide (o.y = 0) else if o.code = 4 then decide (o.b = 0) && decide (o.y = 0) else decide (o.a = 0) && decide (o.b = 0) && decide (o.x = 0) && decide (o.y = 0)
@[push_cast] theorem op_eqs (a b c d e f a' b' c' d' e' f' : Int) (neg : Bool) : aeq neg [.i, .i, .i, .i, .i, .i] (.agg [.int .i64 a, .int .i64 b, .int .i64 c, .int .u32 d, .int .i64 e, .int .i64 f]) (.agg [.int .i64 a', .int .i64 b', .int .i64 c', .int .u32 d', .int .i64 e', .int .i64 f']) = some (.bool ((a == a' && (b == b' && (c == c' && (d == d' && (e == e' && f == f'))))) != neg)) := by
  simp [aeq, cellsEq]
theorem op_eqd (x y : IOp) (neg : Bool) : aeq neg [.i, .i, .i, .i, .i, .i] (.agg x.cells) (.agg y.cells) = some (.bool (decide (x = y) != neg)) := by
  unfold IOp.cells
  rw [op_eqs]
  congr 3
  rw [Bool.eq_iff_iff]
  obtain ⟨a, b, c, d, e, f⟩ := x
  obtain ⟨a', b', c', d', e', f'⟩ := y
  simp [← BitVec.toNat_inj]
  intros; omega
theorem named_spec (o : IOp) : Spec Tryz.prog G 104 [.agg o.cells] h (Is (.bool (namedN o)) h) := by
  refine Spec.is C104ok rfl ?_
  simp only [push_cast, simprocAttr]
  intro c hc
  have hs : ∀ X, Sub h (upd h c X) := fun X => (Sub.refl h).alloc hc
  unfold IOp.cells
  simp only [push_cast, simprocAttr]
  unfold namedN
  refine ⟨fun h1 => ⟨?_, hs _⟩, fun h1 => ⟨fun h2 => ⟨?_, hs _⟩, fun h2 => ⟨fun h3 => ⟨?_, hs _⟩, fun h3 => ⟨fun h4 => ⟨?_, hs _⟩, fun h4 => ⟨?_, hs _⟩⟩⟩⟩⟩
  · rw [if_pos h1]
  · rw [if_neg h1, if_pos h2]
    congr 1; rw [Bool.eq_iff_iff]; simp <;> omega
  · rw [if_neg h1, if_neg h2, if_pos h3]
    congr 1; rw [Bool.eq_iff_iff]; simp <;> omega
  · rw [if_neg h1, if_neg h2, if_neg h3, if_pos h4]
    congr 1; rw [Bool.eq_iff_iff]; simp <;> omega
  · rw [if_neg h1, if_neg h2, if_neg h3, if_neg h4]
    congr 1; rw [Bool.eq_iff_iff]; simp <;> omega
def usesN (o : IOp) : List Int := if o.code = 3 ∨ o.code = 5 ∨ o.code = 6 then [o.a, o.b] else if o.code = 4 then [o.a] else []
abbrev ints (l : List Int) : AV := .ro (l.map (.int .i64)) l.length
theorem Uses_spec (o : IOp) : Spec Tryz.prog G 105 [.agg o.cells] h (Is (ints (usesN o)) h) := by
  refine Spec.weak (Q := fun r h' => Sub h h' ∧ ((usesN o = [] ∧ r = .nils) ∨ r = ints (usesN o))) ?_ ?_
  · refine Spec.walk C105ok rfl ?_
    simp only [push_cast, simprocAttr]
    unfold usesN
    by_cases h3 : o.code = 3
    · simp [h3]
    · by_cases h5 : o.code = 5
      · simp [h5]
      · by_cases h6 : o.code = 6
        · simp [h6]
        · by_cases h4 : o.code = 4
          · simp [h4]
          · simp [h3, h4, h5, h6]
  · rintro r h' ⟨hs, ⟨he, rfl⟩ | rfl⟩
    · rw [he]
      exact ⟨_, _, ⟨rfl, rfl⟩, le_sub hs Le.nils⟩
    · exact ⟨_, _, ⟨rfl, rfl⟩, le_sub hs (Le.refl _ _)⟩
def exN (b : IBk) (o : IOp) (k : Nat) : Bool := if o.code = 5 then b.exit o.x k && b.exit o.y k else if o.code = 4 ∨ o.code = 6 then b.exit o.x k else true
theorem opR_parts (b : IBk) (k : Nat) {o : IOp} (ho : b.ops.getD k IOp.zero = o) : b.opR k = (kindN o && namedN o && allN (usesN o).length (fun i => b.val ((usesN o).getD i 0) k) && exN b o k) := by
  rw [opR_eq b k ho]
  unfold kindN namedN usesN exN
  by_cases h1 : o.code = 1
  · simp [h1, allN]; grind
  · by_cases h2 : o.code = 2
    · simp [h2, allN]; grind
    · by_cases h3 : o.code = 3
      · simp [h3, allN, List.range_succ]; grind
      · by_cases h4 : o.code = 4
        · simp [h4, allN, List.range_succ]; grind
        · by_cases h5 : o.code = 5
          · simp [h5, allN, List.range_succ]; grind
          · by_cases h6 : o.code = 6
            · simp [h6, allN, List.range_succ]; grind
            · simp [h1, h2, h3, h4, h5, h6]
@[push_cast] theorem ints_get (l : List Int) (i : Nat) : (l.map (AV.int .i64))[i]? = if i < l.length then some (AV.int .i64 (l.getD i 0)) else none := by
  simp only [List.getElem?_map]
  split
  · rename_i h; simp [h]
  · rename_i h; simp [Nat.not_lt.1 h]
theorem usesN_len (o : IOp) : (usesN o).length ≤ 2 := by
  unfold usesN
  split
  · simp
  · split <;> simp
theorem op_spec (b : IBk) (k : Nat) (hk : k < b.ops.length) (hm : ∀ e ∈ b.exits, e.map.length ≤ 140737488355328) : Spec Tryz.prog G 88 [.agg [bkP b], .int .i64 k] h (Is (.bool (b.opR k)) h) := by
  refine Spec.is C88ok rfl ?_
  simp only [push_cast, simprocAttr]
  refine ⟨hk, hk, fun c hc => ?_⟩
  rw [era_none hc]
  generalize ho : b.ops.getD k IOp.zero = o
  have hR := opR_parts b k ho
  generalize b.opR k = R at hR ⊢
  refine (kind_spec o).to ?_
  simp only [push_cast, simprocAttr]
  refine ⟨fun hkd => (named_spec o).to ?_, fun hkd => ?_⟩
  · simp only [push_cast, simprocAttr]
    rw [hkd, Bool.true_and] at hR
    refine ⟨fun hnm => ?_, fun hnm => (Uses_spec o).to ?_⟩
    · rw [hR, hnm]; rfl
    · rw [hnm, Bool.true_and] at hR
      have hul := usesN_len o
      simp only [push_cast, simprocAttr]
      refine lpc.rel [1, 2, 5, 25, 26, 27] (fun m ρ h' => ∃ j : Nat, m = (usesN o).length - j ∧ j ≤ (usesN o).length ∧ h = h' ∧ (∀ i, i < j → b.val ((usesN o).getD i 0) k = true) ∧
        ρ = [(1, .int .i64 (k : Int)), (2, .cp [bkP b] 0), (5, .cp o.cells 0), (25, ints (usesN o)), (26, .int .i64 ((usesN o).length : Int)), (27, .int .i64 (j : Int))]) ⟨_, 0, rfl, by omega, rfl, by intro i hi; omega, rfl⟩ ?_
      rintro m _ _ ⟨j, rfl, hj, rfl, hall, rfl⟩
      simp only [push_cast, simprocAttr]
      refine ⟨fun hj2 => ⟨hj2, hj2, (value_spec b _ _).to ?_⟩, fun hj2 => ?_⟩
      · simp (disch := omega) only [push_cast, simprocAttr, wrap_i64, toNat_ofInt64, Nat.min_eq_left, Int.toNat_of_nonneg]
        refine ⟨fun hv => ?_, fun hv => ?_⟩
        · rw [hR, allN_false j hj2 hv]; rfl
        · refine ⟨_, _, by omega, .refl _, j + 1, rfl, by omega, rfl, fun i hi => ?_, rfl⟩
          by_cases hik : i = j
          · subst hik; exact hv
          · exact hall i (by omega)
      · obtain rfl : j = (usesN o).length := by omega
        rw [allN_true hall, Bool.true_and] at hR
        refine ⟨fun h5 => (exit_spec b _ _ hm).to ?_, fun h5 => ⟨fun h4 => ?_, fun h4 => ?_⟩⟩
        · simp only [push_cast, simprocAttr]
          rw [exN, if_pos h5] at hR
          refine ⟨fun g => (exit_spec b _ _ hm).to ?_, fun g => ?_⟩
          · simp only [push_cast, simprocAttr]
            rw [hR, g]; rfl
          · rw [hR, g]; rfl
        · refine ⟨fun _ => (exit_spec b _ _ hm).to ?_, fun h => absurd h4 h⟩
          simp only [push_cast, simprocAttr]
          rw [hR, exN, if_neg h5, if_pos (.inl h4)]
        · refine ⟨fun h6 => (exit_spec b _ _ hm).to ?_, fun h6 => ?_⟩
          · simp only [push_cast, simprocAttr]
            rw [hR, exN, if_neg h5, if_pos (.inr h6)]
          · rw [hR, exN, if_neg h5, if_neg (by omega)]
  · rw [hR, hkd]; rfl
end Go.Ab
end
section
/- Contracts: what is wrong with a block. -/
set_option linter.unusedSimpArgs false
set_option linter.unusedVariables false
set_option maxRecDepth 10000
namespace Go.Ab
open Go.Proofs
variable {G : Glo} {h : Heap}
theorem u32_rem (x : BitVec 32) : ((x.toNat : Int).tmod 4 = 0) ↔ x.toNat % 4 = 0 := by
  show ((x.toNat % 4 : Nat) : Int) = 0 ↔ _
  omega
/-- An exit by itself. -/
def headN (b : IBk) (n : Nat) : Bool := b.exit n b.ops.length && decide (0 ≤ (b.ex n).done) && decide ((b.ex n).done ≤ b.pcs.length) && decide ((b.ex n).pc.toNat % 4 = 0) && decide (1 ≤ (b.ex n).why) && decide ((b.ex n).why ≤ 4)
def regN (e : IEx) (i : Nat) : Bool := decide (1 ≤ (e.vl i).reg) && decide ((e.vl i).reg ≤ 31) && (decide (i = 0) || decide ((e.vl (i - 1)).reg < (e.vl i).reg))
theorem leaves_eq (b : IBk) (n : Nat) : b.leaves n = (headN b n && allN (b.ex n).map.length (regN (b.ex n))) := rfl
theorem regN_iff (e : IEx) (i : Nat) : regN e i = true ↔ 1 ≤ (e.vl i).reg ∧ (e.vl i).reg ≤ 31 ∧ (i = 0 ∨ (e.vl (i - 1)).reg < (e.vl i).reg) := by
  simp [regN, and_assoc]
theorem regN_no {e : IEx} {i : Nat} (h : ¬ (1 ≤ (e.vl i).reg ∧ (e.vl i).reg ≤ 31 ∧ (i = 0 ∨ (e.vl (i - 1)).reg < (e.vl i).reg))) : regN e i = false := by
  rw [← Bool.not_eq_true, regN_iff]; exact h
theorem regN_step {e : IEx} {k : Nat} (hall : ∀ i, i < k → regN e i = true) (h : 1 ≤ (e.vl k).reg ∧ (e.vl k).reg ≤ 31 ∧ (k = 0 ∨ (e.vl (k - 1)).reg < (e.vl k).reg)) : ∀ i, i < k + 1 → regN e i = true := by
  intro i hi
  by_cases hik : i = k
  · subst hik; rw [regN_iff]; exact h
  · exact hall i (by omega)
theorem rleaves_spec (b : IBk) (n : Nat) (hn : n < b.exits.length) (hm : ∀ e ∈ b.exits, e.map.length ≤ 140737488355328) : Spec Tryz.prog G 15 [.agg b.cells, .int .i64 n] h (Is (.bool (b.leaves n)) h) := by
  refine Spec.is C15ok rfl ?_
  simp only [push_cast, simprocAttr]
  refine ⟨hn, hn, fun c hc => ?_⟩
  rw [era_none hc, leaves_eq]
  have hl := getD_map (n := n) hm
  have hH : headN b n = (b.exit n b.ops.length && decide (0 ≤ (b.ex n).done) && decide ((b.ex n).done ≤ b.pcs.length) && decide ((b.ex n).pc.toNat % 4 = 0) && decide (1 ≤ (b.ex n).why) && decide ((b.ex n).why ≤ 4)) := rfl
  generalize hEx : b.ex n = e at hH ⊢
  have hEy : b.exits.getD n IEx.zero = e := hEx
  rw [hEy] at hl ⊢
  refine (rexit_spec b _ _ hm).to ?_
  simp only [push_cast, simprocAttr]
  refine ⟨fun h1 => ?_, fun h1 => ?_⟩
  · have : headN b n = false := by
      rw [hH]
      have := u32_rem e.pc
      by_cases g : e.pc.toNat % 4 = 0
      · rw [this] at h1
        grind
      · grind
    rw [this]; rfl
  · have : headN b n = true := by
      rw [hH]
      have := u32_rem e.pc
      rw [this] at h1
      grind
    rw [this, Bool.true_and]
    refine lpc.rel [5, 6] (fun m ρ h' => ∃ k : Nat, m = e.map.length - k ∧ k ≤ e.map.length ∧ h = h' ∧ (∀ i, i < k → regN e i = true) ∧ ρ = [(5, .cp e.cells 0), (6, .int .i64 (k : Int))]) ⟨_, 0, rfl, by omega, rfl, by intro i hi; omega, rfl⟩ ?_
    rintro m _ _ ⟨k, rfl, hk, rfl, hall, rfl⟩
    by_cases hk2 : k < e.map.length
    · have hv : e.vl k = e.map.getD k IVl.zero := rfl
      have hR := regN_no (e := e) (i := k)
      have hS := regN_step hall
      rw [hv] at hR hS
      by_cases p1 : (e.map.getD k IVl.zero).reg < 1
      · simp only [push_cast, simprocAttr, hk2, p1]
        rw [allN_false k hk2 (hR (by omega))]
      · by_cases p2 : (e.map.getD k IVl.zero).reg > 31
        · simp only [push_cast, simprocAttr, hk2, p1, p2]
          rw [allN_false k hk2 (hR (by omega))]
        · by_cases p3 : k = 0
          · have q3 : ¬ (k : Int) > 0 := by omega
            have ew2 : IntKind.i64.wrap ((k : Int) + 1) = (k : Int) + 1 := wrap_i64 (by omega) (by omega)
            simp only [push_cast, simprocAttr, hk2, p1, p2, q3, ew2]
            exact ⟨_, _, by omega, .refl _, k + 1, rfl, by omega, rfl, hS (by omega), rfl⟩
          · obtain ⟨j, hj⟩ : ∃ j, k = j + 1 := ⟨k - 1, by omega⟩
            have hw : e.vl (k - 1) = e.map.getD j IVl.zero := by rw [hj]; rfl
            have hj2 : j < e.map.length := by omega
            rw [hw] at hR hS
            have q3 : (k : Int) > 0 := by omega
            have ew : IntKind.i64.wrap ((k : Int) - 1) = (j : Int) := by rw [wrap_i64 (by omega) (by omega)]; omega
            have ew2 : IntKind.i64.wrap ((k : Int) + 1) = (k : Int) + 1 := wrap_i64 (by omega) (by omega)
            by_cases p4 : (e.map.getD k IVl.zero).reg ≤ (e.map.getD j IVl.zero).reg
            · simp only [push_cast, simprocAttr, hk2, p1, p2, p4, q3, ew, ew2, hj2]
              rw [allN_false k hk2 (hR (by omega))]
            · simp only [push_cast, simprocAttr, hk2, p1, p2, p4, q3, ew, ew2, hj2]
              exact ⟨_, _, by omega, .refl _, k + 1, rfl, by omega, rfl, hS (by omega), rfl⟩
    · obtain rfl : k = e.map.length := by omega
      simp only [push_cast, simprocAttr, hk2]
      rw [allN_true hall]
theorem leaves_spec (b : IBk) (n : Nat) (hn : n < b.exits.length) (hm : ∀ e ∈ b.exits, e.map.length ≤ 140737488355328) : Spec Tryz.prog G 89 [.agg [bkP b], .int .i64 n] h (Is (.bool (b.leaves n)) h) := by
  refine Spec.is C89ok rfl ?_
  simp only [push_cast, simprocAttr]
  refine ⟨hn, hn, fun c hc => ?_⟩
  rw [era_none hc, leaves_eq]
  have hl := getD_map (n := n) hm
  have hH : headN b n = (b.exit n b.ops.length && decide (0 ≤ (b.ex n).done) && decide ((b.ex n).done ≤ b.pcs.length) && decide ((b.ex n).pc.toNat % 4 = 0) && decide (1 ≤ (b.ex n).why) && decide ((b.ex n).why ≤ 4)) := rfl
  generalize hEx : b.ex n = e at hH ⊢
  have hEy : b.exits.getD n IEx.zero = e := hEx
  rw [hEy] at hl ⊢
  refine (exit_spec b _ _ hm).to ?_
  cases hx : b.exit n b.ops.length with
  | false =>
    simp only [push_cast, simprocAttr]
    rw [hH, hx]; rfl
  | true =>
    by_cases g1 : e.done < 0
    · simp only [push_cast, simprocAttr, g1]
      rw [hH, hx]
      (first | rfl | (congr 1; done) | (congr 1; rw [Bool.eq_iff_iff]; simp only [Bool.and_eq_true, Bool.or_eq_true, Bool.not_eq_true', decide_eq_true_eq, decide_eq_false_iff_not, Bool.false_eq_true, true_and, and_true]; first | omega | grind))
    · by_cases g2 : e.done > b.pcs.length
      · simp only [push_cast, simprocAttr, g1, g2]
        rw [hH, hx]
        (first | rfl | (congr 1; done) | (congr 1; rw [Bool.eq_iff_iff]; simp only [Bool.and_eq_true, Bool.or_eq_true, Bool.not_eq_true', decide_eq_true_eq, decide_eq_false_iff_not, Bool.false_eq_true, true_and, and_true]; first | omega | grind))
      · simp only [push_cast, simprocAttr, g1, g2]
        cases g3 : ((e.pc.toNat : Int).tmod 4 != 0) with
        | true =>
          simp only [push_cast, simprocAttr]
          rw [hH, hx]
          have := u32_rem e.pc
          rw [bne_iff_ne, ne_eq, this] at g3
          (first | rfl | (congr 1; done) | (congr 1; rw [Bool.eq_iff_iff]; simp only [Bool.and_eq_true, Bool.or_eq_true, Bool.not_eq_true', decide_eq_true_eq, decide_eq_false_iff_not, Bool.false_eq_true, true_and, and_true]; first | omega | grind))
        | false =>
          rw [bne_eq_false_iff_eq, u32_rem] at g3
          by_cases g4 : e.why < 1
          · simp only [push_cast, simprocAttr, g4]
            rw [hH, hx]
            (first | rfl | (congr 1; done) | (congr 1; rw [Bool.eq_iff_iff]; simp only [Bool.and_eq_true, Bool.or_eq_true, Bool.not_eq_true', decide_eq_true_eq, decide_eq_false_iff_not, Bool.false_eq_true, true_and, and_true]; first | omega | grind))
          · by_cases g5 : e.why > 4
            · simp only [push_cast, simprocAttr, g4, g5]
              rw [hH, hx]
              (first | rfl | (congr 1; done) | (congr 1; rw [Bool.eq_iff_iff]; simp only [Bool.and_eq_true, Bool.or_eq_true, Bool.not_eq_true', decide_eq_true_eq, decide_eq_false_iff_not, Bool.false_eq_true, true_and, and_true]; first | omega | grind))
            · have hh : headN b n = true := by rw [hH, hx]; simp; omega
              rw [hh, Bool.true_and]
              simp only [push_cast, simprocAttr, g4, g5]
              refine lpc.rel [6, 60, 61, 62] (fun m ρ h' => ∃ k : Nat, m = e.map.length - k ∧ k ≤ e.map.length ∧ h = h' ∧ (∀ i, i < k → regN e i = true) ∧
                ρ = [(6, .int .i64 (if k = 0 then 0 else (e.vl (k - 1)).reg)), (60, vls e.map), (61, .int .i64 (e.map.length : Int)), (62, .int .i64 (k : Int))]) ⟨_, 0, rfl, by omega, rfl, by intro i hi; omega, rfl⟩ ?_
              rintro m _ _ ⟨k, rfl, hk, rfl, hall, rfl⟩
              simp only [push_cast, simprocAttr]
              refine ⟨fun hk2 => ⟨hk2, hk2, fun d hd => ?_⟩, fun hk2 => ?_⟩
              · rw [era_none hd]
                have hv : e.vl k = e.map.getD k IVl.zero := rfl
                have hR := regN_no (e := e) (i := k)
                have hS := regN_step hall
                rw [hv] at hR hS
                have hlast : 0 ≤ (if k = 0 then 0 else (e.vl (k - 1)).reg) ∧ (k = 0 → (if k = 0 then 0 else (e.vl (k - 1)).reg) = 0) ∧ (k ≠ 0 → (if k = 0 then 0 else (e.vl (k - 1)).reg) = (e.vl (k - 1)).reg) := by
                  by_cases hk0 : k = 0
                  · simp [hk0]
                  · have := (regN_iff e (k - 1)).1 (hall (k - 1) (by omega))
                    simp [hk0]
                    omega
                generalize (if k = 0 then 0 else (e.vl (k - 1)).reg) = last at hlast ⊢
                refine ⟨fun hb => ⟨?_, .refl _⟩, fun hb => ?_⟩
                · rw [allN_false k hk2 (hR (by
                    rintro ⟨q1, q2, q3⟩
                    by_cases hk0 : k = 0
                    · have := hlast.2.1 hk0; omega
                    · have := hlast.2.2 hk0; omega))]
                · simp (disch := omega) only [push_cast, simprocAttr, wrap_i64, toNat_ofInt64, Nat.min_eq_left, Int.toNat_of_nonneg]
                  refine ⟨_, _, by omega, .refl _, k + 1, rfl, by omega, rfl, hS ⟨by omega, by omega, ?_⟩, rfl⟩
                  by_cases hk0 : k = 0
                  · exact .inl hk0
                  · have := hlast.2.2 hk0; omega
              · obtain rfl : k = e.map.length := by omega
                rw [allN_true hall]
end Go.Ab
end
section
/- Contracts: what is wrong with a block, all in all; its size. -/
set_option linter.unusedSimpArgs false
set_option linter.unusedVariables false
set_option maxRecDepth 10000
namespace Go.Ab
open Go.Proofs
variable {G : Glo} {h : Heap}
/-- A block whose parts can be numbered. -/
structure IBk.wf (b : IBk) : Prop where
  hp : b.pcs.length ≤ 140737488355328
  ho : b.ops.length ≤ 140737488355328
  he : b.exits.length ≤ 140737488355328
  hm : ∀ e ∈ b.exits, e.map.length ≤ 140737488355328
  hq : b.pcs.length ≤ 1000000000000
  hs : b.ops.length ≤ 1000000000000 ∧ b.exits.length ≤ 1000000000000 ∧ ∀ e ∈ b.exits, e.map.length ≤ 1000000000000
def IBk.pcsR (b : IBk) : Bool := allN b.pcs.length (pcR b.pcs)
theorem odd_spec (x : BitVec 32) : Spec Tryz.prog G 90 [.int .u32 x.toNat] h (Is (.bool (! decide (x.toNat % 4 = 0))) h) := by
  refine Spec.is C90ok rfl ?_
  simp only [push_cast, simprocAttr]
  congr 1
  rw [Bool.eq_iff_iff, bne_iff_ne, ne_eq, u32_rem]
  simp
theorem indexP_spec (l : List (BitVec 32)) (hl : l.length ≤ 140737488355328) : Spec Tryz.prog G 107 [.ro (wds l) l.length, .fn 90 [] []] h
    (fun r h' => h = h' ∧ ∃ j : Int, r = .int .i64 j ∧ (decide (j ≥ 0) = ! allN l.length (pcR l))) := by
  refine Spec.drop (Spec.mono (Q := fun r h' => Sub h h' ∧ ∃ j : Int, r = .int .i64 j ∧ (decide (j ≥ 0) = ! allN l.length (pcR l))) ?_ fun r h' hq => ⟨h, hq.1, rfl, hq.2⟩)
  refine Spec.walk C107ok rfl ?_
  simp only [push_cast, simprocAttr]
  refine lpc.rel [0, 1, 7, 8] (fun m ρ h' => ∃ k : Nat, m = l.length - k ∧ k ≤ l.length ∧ h = h' ∧ (∀ i, i < k → pcR l i = true) ∧
    ρ = [(0, .ro (wds l) l.length), (1, .fn 90 [] []), (7, .int .i64 (l.length : Int)), (8, .int .i64 (k : Int))]) ⟨_, 0, rfl, by omega, rfl, by intro i hi; omega, rfl⟩ ?_
  rintro m _ _ ⟨k, rfl, hk, rfl, hall, rfl⟩
  simp only [push_cast, simprocAttr]
  refine ⟨fun hk2 => ⟨hk2, hk2, ⟨_, C90ok.hf, rfl, rfl⟩, (odd_spec _).to ?_⟩, fun hk2 => ?_⟩
  · simp (disch := omega) only [push_cast, simprocAttr, wrap_i64, toNat_ofInt64, Nat.min_eq_left, Int.toNat_of_nonneg]
    refine ⟨fun hv => ?_, fun hv => ?_⟩
    · rw [allN_false k hk2 (by rw [pcR]; simpa using hv)]
      exact ⟨(k : Int), rfl, by simp⟩
    · refine ⟨_, _, by omega, .refl _, k + 1, rfl, by omega, rfl, fun i hi => ?_, rfl⟩
      by_cases hik : i = k
      · subst hik; rw [pcR]; simpa using hv
      · exact hall i (by omega)
  · obtain rfl : k = l.length := by omega
    rw [allN_true hall]
    exact ⟨-1, rfl, rfl⟩
theorem containsP_spec (l : List (BitVec 32)) (hl : l.length ≤ 140737488355328) : Spec Tryz.prog G 91 [.ro (wds l) l.length, .fn 90 [] []] h (Is (.bool (! allN l.length (pcR l))) h) := by
  refine Spec.is C91ok rfl ?_
  simp only [push_cast, simprocAttr]
  refine (indexP_spec l hl).mono ?_
  rintro _ _ ⟨rfl, j, rfl, hj⟩
  simp only [push_cast, simprocAttr]
  rw [hj]
theorem right_spec (b : IBk) (hw : b.wf) : Spec Tryz.prog G 69 [.agg [bkP b]] h (Is (.bool b.right) h) := by
  have hp := hw.hp
  have ho := hw.ho
  have he := hw.he
  have hR : b.right = (allN b.ops.length b.opR && allN b.exits.length b.leaves && b.pcsR && decide (0 < b.pcs.length) && b.exit b.last b.ops.length) := rfl
  generalize b.right = R at hR ⊢
  refine Spec.is C69ok rfl ?_
  simp only [push_cast, simprocAttr]
  refine lpc.rel [1, 11, 12] (fun m ρ h' => ∃ k : Nat, m = b.ops.length - k ∧ k ≤ b.ops.length ∧ h = h' ∧ (∀ i, i < k → b.opR i = true) ∧
    ρ = [(1, .cp [bkP b] 0), (11, .int .i64 (b.ops.length : Int)), (12, .int .i64 (k : Int))]) ⟨_, 0, rfl, by omega, rfl, by intro i hi; omega, rfl⟩ ?_
  rintro m _ _ ⟨k, rfl, hk, rfl, hall, rfl⟩
  simp only [push_cast, simprocAttr]
  refine ⟨fun hk2 => (op_spec b k hk2 hw.hm).to ?_, fun hk2 => ?_⟩
  · simp (disch := omega) only [push_cast, simprocAttr, wrap_i64, toNat_ofInt64, Nat.min_eq_left, Int.toNat_of_nonneg]
    refine ⟨fun hv => ?_, fun hv => ?_⟩
    · rw [hR, allN_false k hk2 hv]; rfl
    · refine ⟨_, _, by omega, .refl _, k + 1, rfl, by omega, rfl, fun i hi => ?_, rfl⟩
      by_cases hik : i = k
      · subst hik; exact hv
      · exact hall i (by omega)
  · obtain rfl : k = b.ops.length := by omega
    rw [allN_true hall, Bool.true_and] at hR
    refine lpc.rel [1, 25, 26] (fun m ρ h' => ∃ k : Nat, m = b.exits.length - k ∧ k ≤ b.exits.length ∧ h = h' ∧ (∀ i, i < k → b.leaves i = true) ∧
      ρ = [(1, .cp [bkP b] 0), (25, .int .i64 (b.exits.length : Int)), (26, .int .i64 (k : Int))]) ⟨_, 0, rfl, by omega, rfl, by intro i hi; omega, rfl⟩ ?_
    rintro m _ _ ⟨k, rfl, hk, rfl, hall, rfl⟩
    simp only [push_cast, simprocAttr]
    refine ⟨fun hk2 => (leaves_spec b k hk2 hw.hm).to ?_, fun hk2 => ?_⟩
    · simp (disch := omega) only [push_cast, simprocAttr, wrap_i64, toNat_ofInt64, Nat.min_eq_left, Int.toNat_of_nonneg]
      refine ⟨fun hv => ?_, fun hv => ?_⟩
      · rw [hR, allN_false k hk2 hv]; rfl
      · refine ⟨_, _, by omega, .refl _, k + 1, rfl, by omega, rfl, fun i hi => ?_, rfl⟩
        by_cases hik : i = k
        · subst hik; exact hv
        · exact hall i (by omega)
    · obtain rfl : k = b.exits.length := by omega
      rw [allN_true hall, Bool.true_and] at hR
      by_cases q : (b.pcs.length : Int) > 0
      · simp only [push_cast, simprocAttr, q]
        have q2 : decide (0 < b.pcs.length) = true := decide_eq_true (by omega)
        rw [q2, Bool.and_true] at hR
        refine (containsP_spec b.pcs hp).to ?_
        cases hP : allN b.pcs.length (pcR b.pcs) with
        | true =>
          simp only [push_cast, simprocAttr, q]
          refine (exit_spec b _ _ hw.hm).to ?_
          simp only [push_cast, simprocAttr, q]
          rw [hR, IBk.pcsR, hP]; rfl
        | false =>
          simp only [push_cast, simprocAttr, q]
          rw [hR, IBk.pcsR, hP]; rfl
      · simp only [push_cast, simprocAttr, q]
        rw [hR, decide_eq_false (by omega)]; simp
end Go.Ab
end
section
/- Contracts: Check. -/
set_option linter.unusedSimpArgs false
set_option linter.unusedVariables false
set_option maxRecDepth 10000
namespace Go.Ab
open Go.Proofs
variable {G : Glo} {h : Heap}
theorem check_long {b : IBk} (h : b.pcs.length > 32 ∨ b.ops.length > 512 ∨ b.exits.length > 128) : b.check = 3 := by
  have : b.long = true := by simp only [IBk.long, Bool.or_eq_true, decide_eq_true_eq]; omega
  rw [IBk.check, if_pos this]
theorem check_short {b : IBk} (h1 : ¬ b.pcs.length > 32) (h2 : ¬ b.ops.length > 512) (h3 : ¬ b.exits.length > 128) : b.check = if b.right then 0 else 1 := by
  have : ¬ b.long = true := by simp only [IBk.long, Bool.or_eq_true, decide_eq_true_eq]; omega
  rw [IBk.check, if_neg this]
theorem Check_spec (b : IBk) (hw : b.wf) : Spec Tryz.prog G 43 [bkP b] h (Is (.int .i64 b.check) h) := by
  refine Spec.is C43ok rfl ?_
  by_cases g1 : (b.pcs.length : Int) > 32
  · simp only [push_cast, simprocAttr, g1]
    rw [check_long (by omega)]
  · by_cases g2 : (b.ops.length : Int) > 512
    · simp only [push_cast, simprocAttr, g1, g2]
      rw [check_long (by omega)]
    · by_cases g3 : (b.exits.length : Int) > 128
      · simp only [push_cast, simprocAttr, g1, g2, g3]
        rw [check_long (by omega)]
      · simp only [push_cast, simprocAttr, g1, g2, g3]
        refine (right_spec b hw).to ?_
        rw [check_short (by omega) (by omega) (by omega)]
        cases b.right with
        | true => simp only [push_cast, simprocAttr]
        | false => simp only [push_cast, simprocAttr]
theorem rCheck_spec (b : IBk) (hw : b.wf) : Spec Tryz.prog G 5 [.agg b.cells] h (Is (.int .i64 b.check) h) := by
  have hp := hw.hp
  have ho := hw.ho
  have he := hw.he
  refine Spec.is C5ok rfl ?_
  simp only [push_cast, simprocAttr]
  refine ⟨fun h1 => ?_, fun h1 => ?_⟩
  · rw [check_long (by omega)]
  · rw [check_short (by omega) (by omega) (by omega)]
    have hR : b.right = (allN b.ops.length b.opR && allN b.exits.length b.leaves && allN b.pcs.length (pcR b.pcs) && decide (0 < b.pcs.length) && b.exit b.last b.ops.length) := rfl
    generalize b.right = R at hR ⊢
    refine lpc.rel [1, 3] (fun m ρ h' => ∃ k : Nat, m = b.ops.length - k ∧ k ≤ b.ops.length ∧ h = h' ∧ (∀ i, i < k → b.opR i = true) ∧
      ρ = [(1, .cp b.cells 0), (3, .int .i64 (k : Int))]) ⟨_, 0, rfl, by omega, rfl, by intro i hi; omega, rfl⟩ ?_
    rintro m _ _ ⟨k, rfl, hk, rfl, hall, rfl⟩
    simp only [push_cast, simprocAttr]
    refine ⟨fun hk2 => (rop_spec b k hk2 hw.hm).to ?_, fun hk2 => ?_⟩
    · simp (disch := omega) only [push_cast, simprocAttr, wrap_i64, toNat_ofInt64, Nat.min_eq_left, Int.toNat_of_nonneg]
      refine ⟨fun hv => ?_, fun hv => ?_⟩
      · rw [hR, allN_false k hk2 hv]; rfl
      · refine ⟨_, _, by omega, .refl _, k + 1, rfl, by omega, rfl, fun i hi => ?_, rfl⟩
        by_cases hik : i = k
        · subst hik; exact hv
        · exact hall i (by omega)
    · obtain rfl : k = b.ops.length := by omega
      rw [allN_true hall, Bool.true_and] at hR
      refine lpc.rel [1, 4] (fun m ρ h' => ∃ k : Nat, m = b.exits.length - k ∧ k ≤ b.exits.length ∧ h = h' ∧ (∀ i, i < k → b.leaves i = true) ∧
        ρ = [(1, .cp b.cells 0), (4, .int .i64 (k : Int))]) ⟨_, 0, rfl, by omega, rfl, by intro i hi; omega, rfl⟩ ?_
      rintro m _ _ ⟨k, rfl, hk, rfl, hall, rfl⟩
      simp only [push_cast, simprocAttr]
      refine ⟨fun hk2 => (rleaves_spec b k hk2 hw.hm).to ?_, fun hk2 => ?_⟩
      · simp (disch := omega) only [push_cast, simprocAttr, wrap_i64, toNat_ofInt64, Nat.min_eq_left, Int.toNat_of_nonneg]
        refine ⟨fun hv => ?_, fun hv => ?_⟩
        · rw [hR, allN_false k hk2 hv]; rfl
        · refine ⟨_, _, by omega, .refl _, k + 1, rfl, by omega, rfl, fun i hi => ?_, rfl⟩
          by_cases hik : i = k
          · subst hik; exact hv
          · exact hall i (by omega)
      · obtain rfl : k = b.exits.length := by omega
        rw [allN_true hall, Bool.true_and] at hR
        refine lpc.rel [1, 5] (fun m ρ h' => ∃ k : Nat, m = b.pcs.length - k ∧ k ≤ b.pcs.length ∧ h = h' ∧ (∀ i, i < k → pcR b.pcs i = true) ∧
          ρ = [(1, .cp b.cells 0), (5, .int .i64 (k : Int))]) ⟨_, 0, rfl, by omega, rfl, by intro i hi; omega, rfl⟩ ?_
        rintro m _ _ ⟨k, rfl, hk, rfl, hall, rfl⟩
        by_cases hk2 : k < b.pcs.length
        · cases hv : (((b.pcs.getD k 0#32).toNat : Int).tmod 4 != 0) with
          | true =>
            have hv2 : pcR b.pcs k = false := by
              rw [bne_iff_ne, ne_eq, u32_rem] at hv
              exact decide_eq_false hv
            rw [hR, allN_false k hk2 hv2]
            simp (disch := omega) only [push_cast, simprocAttr, wrap_i64, toNat_ofInt64, Nat.min_eq_left, Int.toNat_of_nonneg, hk2, hv]
          | false =>
            have hv2 : pcR b.pcs k = true := by
              rw [bne_eq_false_iff_eq, u32_rem] at hv
              exact decide_eq_true hv
            simp (disch := omega) only [push_cast, simprocAttr, wrap_i64, toNat_ofInt64, Nat.min_eq_left, Int.toNat_of_nonneg, hk2, hv]
            refine ⟨_, _, by omega, .refl _, k + 1, rfl, by omega, rfl, fun i hi => ?_, rfl⟩
            by_cases hik : i = k
            · subst hik; exact hv2
            · exact hall i (by omega)
        · obtain rfl : k = b.pcs.length := by omega
          rw [allN_true hall, Bool.true_and] at hR
          by_cases h0 : b.pcs.length = 0
          · rw [decide_eq_false (by omega), Bool.false_and] at hR
            simp only [push_cast, simprocAttr, hk2, h0]
            rw [hR]; rfl
          · rw [decide_eq_true (by omega), Bool.true_and] at hR
            simp only [push_cast, simprocAttr, hk2, h0]
            refine ⟨fun _ => (rexit_spec b _ _ hw.hm).to ?_, fun h => by omega⟩
            cases hx : b.exit b.last b.ops.length with
            | true =>
              simp only [push_cast, simprocAttr]
              rw [hR, hx]; rfl
            | false =>
              simp only [push_cast, simprocAttr]
              rw [hR, hx]; rfl
end Go.Ab
end
section
/- What instructions reckon: over words alone. -/
set_option linter.unusedSimpArgs false
set_option linter.unusedVariables false
set_option maxRecDepth 10000
namespace Go.Ab
open Go.Proofs
variable {G : Glo} {h : Heap}
/-- The instruction of two registers that reckons the same. -/
def plainN (op : Int) : Int := if op = 19 then 28 else if op = 20 then 31 else if op = 21 then 32 else if op = 22 then 33 else if op = 23 then 36 else if op = 24 then 37 else if op = 25 then 30 else if op = 26 then 34 else if op = 27 then 35 else if 19 ≤ op ∧ op ≤ 37 then op else 0
def bit1 (b : Bool) : BitVec 32 := if b then 1 else 0
def aluP (p : Int) (a b : BitVec 32) : BitVec 32 :=
  if p = 28 then a + b else if p = 29 then a - b else if p = 30 then a <<< (b.toNat % 32) else if p = 31 then bit1 (decide (a.toInt < b.toInt)) else if p = 32 then bit1 (decide (a.toNat < b.toNat)) else if p = 33 then a ^^^ b else if p = 34 then a >>> (b.toNat % 32) else if p = 36 then a ||| b else if p = 37 then a &&& b else if p = 35 then a.sshiftRight (b.toNat % 32) else 0
/-- What an instruction reckons of two words (0: nothing). -/
def aluN (op : Int) (a b : BitVec 32) : BitVec 32 := aluP (plainN op) a b
def aluE (op : Int) : Int := if 19 ≤ op ∧ op ≤ 37 then 0 else 9
theorem one_spec (b : Bool) : Spec Tryz.prog G 115 [.bool b] h (Is (.int .u32 (bit1 b).toNat) h) := by
  refine Spec.is C115ok rfl ?_
  simp only [push_cast, simprocAttr]
  cases b <;> simp [bit1]
theorem Plain_spec (op : Int) : Spec Tryz.prog G 114 [.int .i64 op] h (Is (.int .i64 (plainN op)) h) := by
  refine Spec.is C114ok rfl ?_
  simp only [push_cast, simprocAttr]
  unfold plainN
  refine ⟨fun h1 => ?_, fun h1 => ⟨fun h2 => ?_, fun h2 => ⟨fun h3 => ?_, fun h3 => ⟨fun h4 => ?_, fun h4 => ⟨fun h5 => ?_, fun h5 => ⟨fun h6 => ?_, fun h6 => ⟨fun h7 => ?_, fun h7 => ⟨fun h8 => ?_, fun h8 => ⟨fun h9 => ?_, fun h9 => ?_⟩⟩⟩⟩⟩⟩⟩⟩⟩
  all_goals first
    | (simp [*]; done)
    | (refine (aHas_spec op).to ?_
       simp only [push_cast, simprocAttr]
       simp only [if_neg h1, if_neg h2, if_neg h3, if_neg h4, if_neg h5, if_neg h6, if_neg h7, if_neg h8, if_neg h9]
       first
         | exact ⟨fun h10 => by rw [if_pos h10], fun h10 => by rw [if_neg (by rintro ⟨q1, q2⟩; simp [q1, q2] at h10)]⟩)
theorem plain_range (op : Int) : (plainN op = 0 ∧ ¬ (19 ≤ op ∧ op ≤ 37)) ∨ (28 ≤ plainN op ∧ plainN op ≤ 37 ∧ 19 ≤ op ∧ op ≤ 37) := by
  unfold plainN
  (repeat' split) <;> omega
theorem xor_top (x : Nat) (hx : x < 2 ^ 32) : x ^^^ 2 ^ 31 = (2 ^ 31 + x) % 2 ^ 32 := by
  apply Nat.eq_of_testBit_eq
  intro i
  rw [Nat.testBit_xor, Nat.testBit_two_pow, Nat.testBit_mod_two_pow]
  rcases Nat.lt_trichotomy i 31 with hi | rfl | hi
  · rw [Nat.testBit_two_pow_add_gt hi]
    simp [show ¬ 31 = i by omega, show i < 32 by omega]
  · rw [Nat.testBit_two_pow_add_eq]
    simp
  · have : x.testBit i = false := Nat.testBit_lt_two_pow (Nat.lt_of_lt_of_le hx (Nat.pow_le_pow_right (by omega) (by omega)))
    simp [this, show ¬ 31 = i by omega, show ¬ i < 32 by omega]
theorem toInt_top (x : BitVec 32) : ((x ^^^ 0x80000000#32).toNat : Int) = x.toInt + 2147483648 := by
  have hx := x.isLt
  have h1 : (x ^^^ 0x80000000#32).toNat = (2 ^ 31 + x.toNat) % 2 ^ 32 := by
    rw [BitVec.toNat_xor, ← xor_top _ hx]; rfl
  rw [h1, BitVec.toInt_eq_toNat_cond]
  split <;> omega
theorem and31 (b : BitVec 32) : min (BitVec.setWidth 64 (b &&& 31#32)).toNat 32 = b.toNat % 32 := by
  have := and_mod b 5 (by omega)
  simp only [Nat.reducePow, Nat.reduceSub] at this
  rw [sw64, this]
  omega
theorem sar_eq (a : BitVec 32) (n : Nat) : BitVec.ofInt 32 (a.toInt.fdiv (2 ^ n)) = a.sshiftRight n := by
  rw [pow_int, Int.fdiv_eq_ediv_of_nonneg _ (Int.natCast_nonneg _), BitVec.sshiftRight, Int.shiftRight_eq_div_pow]
theorem Do_alu (op : Int) (a b : BitVec 32) : Spec Tryz.prog G 100 [.int .i64 op, .int .u32 a.toNat, .int .u32 b.toNat] h (Is (.tup [.int .u32 (aluN op a b).toNat, .int .i64 (aluE op)]) h) := by
  refine Spec.is C100ok rfl ?_
  simp only [push_cast, simprocAttr]
  refine (Plain_spec op).to ?_
  have hr := plain_range op
  have hE : aluE op = if plainN op = 0 then 9 else 0 := by
    unfold aluE
    rcases hr with ⟨h1, h2⟩ | h1
    · rw [if_neg h2, if_pos h1]
    · rw [if_pos ⟨h1.2.2.1, h1.2.2.2⟩, if_neg (by omega)]
  rw [hE, aluN]
  have ht := toInt_top a
  have ht' := toInt_top b
  have hd : decide ((a ^^^ 0x80000000#32).toNat < (b ^^^ 0x80000000#32).toNat) = decide (a.toInt < b.toInt) := by
    rw [decide_eq_decide]; omega
  generalize plainN op = p at *
  simp only [push_cast, simprocAttr, and31, hd]
  unfold aluP
  refine ⟨fun h1 => ?_, fun h1 => ⟨fun h2 => ?_, fun h2 => ⟨fun h3 => ?_, fun h3 => ⟨fun h4 => (one_spec _).to ?_, fun h4 => ⟨fun h5 => (one_spec _).to ?_, fun h5 => ⟨fun h6 => ?_, fun h6 => ⟨fun h7 => ?_, fun h7 => ⟨fun h8 => ?_, fun h8 => ⟨fun h9 => ?_, fun h9 => ⟨fun h10 => ?_, fun h10 => ?_⟩⟩⟩⟩⟩⟩⟩⟩⟩⟩
  · subst h1; simp [BitVec.sub_eq_add_neg]
  · subst h2; simp
  · subst h3; simp
  · simp only [push_cast, simprocAttr]
    subst h4; simp
  · simp only [push_cast, simprocAttr]
    subst h5; simp
  · subst h6; simp
  · subst h7; simp
  · subst h8
    simp only [Int.reduceEq, reduceIte, sar_eq]
  · subst h9; simp
  · subst h10; simp
  · have : p = 0 := by omega
    subst this; simp
/-- What it multiplies and divides. -/
def mdN (op : Int) (a b : BitVec 32) : BitVec 32 :=
  if op = 50 then a * b else if op = 51 then BitVec.ofInt 32 (a.toInt * b.toInt / 4294967296) else if op = 52 then BitVec.ofInt 32 (a.toInt * b.toNat / 4294967296) else if op = 53 then BitVec.ofNat 32 (a.toNat * b.toNat / 4294967296)
  else if op = 54 then (if b = 0#32 then 0xffffffff#32 else BitVec.ofInt 32 (a.toInt.tdiv b.toInt)) else if op = 55 then (if b = 0#32 then 0xffffffff#32 else a / b)
  else if op = 56 then (if b = 0#32 then a else BitVec.ofInt 32 (a.toInt.tmod b.toInt)) else if op = 57 then (if b = 0#32 then a else a % b) else 0
def mdE (op : Int) : Int := if 50 ≤ op ∧ op ≤ 57 then 0 else 9
theorem shr31 (a : BitVec 32) : (((a >>> 31).toNat : Int) == 1) = decide (a.toInt < 0) := by
  rw [Bool.eq_iff_iff, beq_iff_eq, decide_eq_true_eq, BitVec.toNat_ushiftRight, Nat.shiftRight_eq_div_pow, BitVec.toInt_eq_toNat_cond]
  have := a.isLt
  split <;> omega
theorem negative_spec (a : BitVec 32) : Spec Tryz.prog G 121 [.int .u32 a.toNat] h (Is (.bool (decide (a.toInt < 0))) h) := by
  refine Spec.is C121ok rfl ?_
  simp only [push_cast, simprocAttr]
  rw [show min 31 32 = 31 from rfl, shr31]
theorem and16 (b : BitVec 32) : (b &&& 65535#32).toNat = b.toNat % 65536 := by
  have := and_mod b 16 (by omega)
  simpa using this
theorem prod16 {x y : Nat} (hx : x < 65536) (hy : y < 65536) : x * y ≤ 4294836225 := by
  have := Nat.mul_le_mul (show x ≤ 65535 by omega) (show y ≤ 65535 by omega)
  omega
theorem wide_eq (a b : BitVec 32) : a >>> 16 * b >>> 16 + (a >>> 16 * (b &&& 65535#32) + ((a &&& 65535#32) * (b &&& 65535#32)) >>> 16) >>> 16 +
    ((a &&& 65535#32) * b >>> 16 + (a >>> 16 * (b &&& 65535#32) + ((a &&& 65535#32) * (b &&& 65535#32)) >>> 16 &&& 65535#32)) >>> 16 = BitVec.ofNat 32 (a.toNat * b.toNat / 4294967296) := by
  have ha := a.isLt
  have hb := b.isLt
  apply BitVec.eq_of_toNat_eq
  simp only [BitVec.toNat_add, BitVec.toNat_mul, BitVec.toNat_ushiftRight, and16, Nat.shiftRight_eq_div_pow, BitVec.toNat_ofNat, Nat.reducePow]
  generalize a.toNat = A at *
  generalize b.toNat = B at *
  obtain ⟨x, y, hx, hy, rfl⟩ : ∃ x y, x < 65536 ∧ y < 65536 ∧ A = 65536 * x + y := ⟨A / 65536, A % 65536, by omega, by omega, by omega⟩
  obtain ⟨u, v, hu, hv, rfl⟩ : ∃ u v, u < 65536 ∧ v < 65536 ∧ B = 65536 * u + v := ⟨B / 65536, B % 65536, by omega, by omega, by omega⟩
  rw [show (65536 * x + y) / 65536 = x by omega, show (65536 * x + y) % 65536 = y by omega, show (65536 * u + v) / 65536 = u by omega, show (65536 * u + v) % 65536 = v by omega]
  have e : (65536 * x + y) * (65536 * u + v) = 4294967296 * (x * u) + 65536 * (x * v) + 65536 * (y * u) + y * v := by grind
  have h1 := prod16 hx hu
  have h2 := prod16 hx hv
  have h3 := prod16 hy hu
  have h4 := prod16 hy hv
  rw [e]
  generalize x * u = p at *
  generalize x * v = q at *
  generalize y * u = r at *
  generalize y * v = s at *
  omega
theorem Wide_spec (a b : BitVec 32) : Spec Tryz.prog G 120 [.int .u32 a.toNat, .int .u32 b.toNat] h (Is (.tup [.int .u32 (BitVec.ofNat 32 (a.toNat * b.toNat / 4294967296)).toNat, .int .u32 (a * b).toNat]) h) := by
  refine Spec.is C120ok rfl ?_
  simp only [push_cast, simprocAttr]
  rw [show min 16 32 = 16 from rfl, wide_eq]
theorem ofInt_congr {x y : Int} (k : Int) (h : x = y + 4294967296 * k) : BitVec.ofInt 32 x = BitVec.ofInt 32 y := by
  apply BitVec.eq_of_toNat_eq
  rw [BitVec.toNat_ofInt, BitVec.toNat_ofInt]
  congr 1
  omega
theorem bv_int (a : BitVec 32) : a = BitVec.ofInt 32 (a.toNat : Int) := by rw [BitVec.ofInt_natCast]; simp
/-- A product's upper half. -/
theorem up_eq (a b : BitVec 32) (sa sb : Bool) : BitVec.ofNat 32 (a.toNat * b.toNat / 4294967296) - (if (sa && decide (a.toInt < 0)) = true then b else 0#32) - (if (sb && decide (b.toInt < 0)) = true then a else 0#32) =
    BitVec.ofInt 32 ((if sa then a.toInt else a.toNat) * (if sb then b.toInt else b.toNat) / 4294967296) := by
  have h0 : BitVec.ofNat 32 (a.toNat * b.toNat / 4294967296) = BitVec.ofInt 32 (((a.toNat : Int) * (b.toNat : Int)) / 4294967296) := by
    rw [← BitVec.ofInt_natCast]; congr 1
  have hz : (0#32) = BitVec.ofInt 32 0 := rfl
  have ha := BitVec.toInt_eq_toNat_cond a
  have hb := BitVec.toInt_eq_toNat_cond b
  have la := a.isLt
  have lb := b.isLt
  have ea : a.toInt = (a.toNat : Int) - (if a.toInt < 0 then 4294967296 else 0) := by split <;> split at ha <;> omega
  have eb : b.toInt = (b.toNat : Int) - (if b.toInt < 0 then 4294967296 else 0) := by split <;> split at hb <;> omega
  clear ha hb
  have fa : (if (sa && decide (a.toInt < 0)) = true then b else 0#32) = BitVec.ofInt 32 (if (sa && decide (a.toInt < 0)) = true then (b.toNat : Int) else 0) := by split; exact bv_int b; rfl
  have fb : (if (sb && decide (b.toInt < 0)) = true then a else 0#32) = BitVec.ofInt 32 (if (sb && decide (b.toInt < 0)) = true then (a.toNat : Int) else 0) := by split; exact bv_int a; rfl
  rw [h0, fa, fb, ← ofInt_sub', ← ofInt_sub']
  generalize a.toInt = x at *
  generalize b.toInt = y at *
  generalize (a.toNat : Int) = A at *
  generalize (b.toNat : Int) = B at *
  have key : ∀ p q : Int, (A - 4294967296 * p) * (B - 4294967296 * q) = A * B + 4294967296 * (4294967296 * (p * q) - p * B - q * A) := by intro p q; grind
  have fin : ∀ p q : Int, (A - 4294967296 * p) * (B - 4294967296 * q) / 4294967296 = A * B / 4294967296 + (4294967296 * (p * q) - p * B - q * A) := by
    intro p q
    rw [key, Int.add_mul_ediv_left _ _ (by omega)]
  have k00 := fin 0 0
  have k01 := fin 0 1
  have k10 := fin 1 0
  have k11 := fin 1 1
  simp only [Int.mul_zero, Int.sub_zero, Int.mul_one, Int.zero_mul, Int.one_mul, Int.zero_sub, Int.sub_self, Int.add_zero] at k00 k01 k10 k11
  cases sa <;> cases sb <;> simp only [Bool.true_and, Bool.false_and, Bool.false_eq_true, reduceIte, decide_eq_true_eq]
  · exact ofInt_congr 0 (by omega)
  · by_cases hy : y < 0
    · rw [if_pos hy] at eb ⊢
      rw [eb, k01]; exact ofInt_congr 0 (by omega)
    · rw [if_neg hy, Int.sub_zero] at eb
      rw [if_neg hy, eb]; exact ofInt_congr 0 (by omega)
  · by_cases hx : x < 0
    · rw [if_pos hx] at ea ⊢
      rw [ea, k10]; exact ofInt_congr 0 (by omega)
    · rw [if_neg hx, Int.sub_zero] at ea
      rw [if_neg hx, ea]; exact ofInt_congr 0 (by omega)
  · by_cases hx : x < 0 <;> by_cases hy : y < 0
    · rw [if_pos hx] at ea ⊢
      rw [if_pos hy] at eb ⊢
      rw [ea, eb, k11]; exact ofInt_congr (-1) (by omega)
    · rw [if_pos hx] at ea ⊢
      rw [if_neg hy, Int.sub_zero] at eb
      rw [if_neg hy, ea, eb, k10]; exact ofInt_congr 0 (by omega)
    · rw [if_neg hx, Int.sub_zero] at ea
      rw [if_pos hy] at eb ⊢
      rw [if_neg hx, ea, eb, k01]; exact ofInt_congr 0 (by omega)
    · rw [if_neg hx, Int.sub_zero] at ea
      rw [if_neg hy, Int.sub_zero] at eb
      rw [if_neg hx, if_neg hy, ea, eb]; exact ofInt_congr 0 (by omega)
theorem upper_spec (a b : BitVec 32) (sa sb : Bool) : Spec Tryz.prog G 116 [.int .u32 a.toNat, .int .u32 b.toNat, .bool sa, .bool sb] h
    (Is (.int .u32 (BitVec.ofInt 32 ((if sa then a.toInt else a.toNat) * (if sb then b.toInt else b.toNat) / 4294967296)).toNat) h) := by
  rw [← up_eq]
  refine Spec.is C116ok rfl ?_
  simp only [push_cast, simprocAttr]
  refine (Wide_spec a b).to ?_
  cases sa <;> cases sb
  · simp only [push_cast, simprocAttr]
    simp
  · simp only [push_cast, simprocAttr]
    refine (negative_spec b).to ?_
    simp only [push_cast, simprocAttr]
    by_cases hb : b.toInt < 0 <;> simp [hb]
  · simp only [push_cast, simprocAttr]
    refine (negative_spec a).to ?_
    simp only [push_cast, simprocAttr]
    by_cases ha : a.toInt < 0 <;> simp [ha]
  · simp only [push_cast, simprocAttr]
    refine (negative_spec a).to ?_
    simp only [push_cast, simprocAttr]
    by_cases ha : a.toInt < 0
    · simp only [push_cast, simprocAttr, ha]
      refine (negative_spec b).to ?_
      simp only [push_cast, simprocAttr]
      by_cases hb : b.toInt < 0 <;> simp [hb]
    · simp only [push_cast, simprocAttr, ha]
      refine (negative_spec b).to ?_
      simp only [push_cast, simprocAttr]
      by_cases hb : b.toInt < 0 <;> simp [hb]
theorem size_spec (a : BitVec 32) : Spec Tryz.prog G 124 [.int .u32 a.toNat] h (Is (.int .u32 (BitVec.ofNat 32 a.toInt.natAbs).toNat) h) := by
  refine Spec.is C124ok rfl ?_
  simp only [push_cast, simprocAttr]
  refine (negative_spec a).to ?_
  have ha := BitVec.toInt_eq_toNat_cond a
  have la := a.isLt
  simp only [push_cast, simprocAttr]
  refine ⟨fun h1 => ?_, fun h1 => ?_⟩
  · congr 2
    rw [BitVec.toNat_sub, BitVec.toNat_ofNat, BitVec.toNat_ofNat]
    split at ha <;> omega
  · congr 2
    rw [BitVec.toNat_ofNat]
    split at ha <;> omega
abbrev wd (a : BitVec 32) : AV := .int .u32 a.toNat
abbrev cell1 (a : BitVec 32) : Blk := ⟨[wd a], 0⟩
def dPost (h : Heap) (pq pr : Nat) (q r : BitVec 32) (h' : Heap) : Prop := h' pq = some (cell1 q) ∧ h' pr = some (cell1 r) ∧ ∀ c, c ≠ pq → c ≠ pr → h' c = h c
theorem divided1_spec {pa pb pq pr : Nat} (a b q r q1 r1 : BitVec 32) (ha : h pa = some (cell1 a)) (hb : h pb = some (cell1 b)) (hq : h pq = some (cell1 q)) (hr : h pr = some (cell1 r)) (n1 : pa ≠ pq) (n2 : pq ≠ pr)
    (hq1 : q1 = if decide (a.toInt < 0) != decide (b.toInt < 0) then 0 - q else q) (hr1 : r1 = if a.toInt < 0 then 0 - r else r) :
    SpecD Tryz.prog G 123 [.ptr pa 0, .ptr pb 0, .ptr pq 0, .ptr pr 0] h (fun _ h' => dPost h pq pr q1 r1 h') := by
  refine SpecD.walk C123ok rfl ?_
  simp only [push_cast, simprocAttr, ha, hb]
  refine (negative_spec a).to ?_
  simp only [push_cast, simprocAttr, ha, hb]
  refine (negative_spec b).to ?_
  simp only [push_cast, simprocAttr, ha, hb]
  have key : ∀ (q' : BitVec 32) (h1 : Heap), h1 = upd h pq (cell1 q') → h1 pa = some (cell1 a) ∧ h1 pr = some (cell1 r) ∧ h1 pq = some (cell1 q') := by
    rintro q' _ rfl
    exact ⟨by rw [upd_ne n1]; exact ha, by rw [upd_ne (Ne.symm n2)]; exact hr, upd_same _ _ _⟩
  have fin : ∀ (q' : BitVec 32) (h1 : Heap), h1 = upd h pq (cell1 q') → ∀ r' : BitVec 32, dPost h pq pr q' r' (upd h1 pr (cell1 r')) := by
    rintro q' _ rfl r'
    exact ⟨by rw [upd_ne n2]; exact upd_same _ _ _, upd_same _ _ _, fun c h1 h2 => by rw [upd_ne h2, upd_ne h1]⟩
  have hself : h = upd h pq (cell1 q) := (upd_self hq).symm
  refine ⟨fun h1 => ?_, fun h1 => ?_⟩
  · simp only [push_cast, simprocAttr, hq]
    obtain ⟨k1, k2, k3⟩ := key (0#32 - q) _ rfl
    have f := fin (0#32 - q) _ rfl
    have hc : (decide (a.toInt < 0) != decide (b.toInt < 0)) = true := by rw [bne_iff_ne]; exact h1
    rw [if_pos hc] at hq1
    subst hq1
    generalize upd h pq (cell1 (0#32 - q)) = h1 at *
    simp only [push_cast, simprocAttr, k1]
    refine (negative_spec a).to ?_
    simp only [push_cast, simprocAttr, k1, k2]
    refine ⟨fun h2 => ?_, fun h2 => ?_⟩
    · rw [if_pos h2] at hr1
      subst hr1
      exact f (0#32 - r)
    · rw [if_neg h2] at hr1
      subst hr1
      have := f r1
      rwa [upd_self k2] at this
  · obtain ⟨k1, k2, k3⟩ := key q h hself
    have f := fin q h hself
    have hc : ¬ (decide (a.toInt < 0) != decide (b.toInt < 0)) = true := by rw [bne_iff_ne]; exact fun q => q h1
    rw [if_neg hc] at hq1
    subst hq1
    refine (negative_spec a).to ?_
    simp only [push_cast, simprocAttr, k1, k2]
    refine ⟨fun h2 => ?_, fun h2 => ?_⟩
    · rw [if_pos h2] at hr1
      subst hr1
      exact f (0#32 - r)
    · rw [if_neg h2] at hr1
      subst hr1
      have := f r1
      rwa [upd_self k2] at this
theorem SpecD.mono {P : Program} {f : FuncId} {args : List AV} {h : Heap} {Q Q' : AV → Heap → Prop} (hs : SpecD P G f args h Q) (hq : ∀ r h', Q r h' → Q' r h') : SpecD P G f args h Q' :=
  fun w vs u h1 h2 h3 => (hs w vs u h1 h2 h3).mono fun _ _ _ ⟨e, v, r, h', a, b, c⟩ => ⟨e, v, r, h', a, hq _ _ b, c⟩
theorem Spec.isD {P : Program} {f : FuncId} {fn : Func} {x y : ACode} {d g : Nat} {caps : List Operand} {rs : List RV} {args : List AV} {h h1 : Heap} {v : AV} (ho : Okd P f fn x (d, g, caps) y rs)
    (hn : Nat.ble args.length fn.ntmps = true) (hw : wpc P G fn.ntmps x (midC P G fn.ntmps d g caps y rs (IsS v h1)) (argEnv args) h) : Spec P G f args h (Is v h1) :=
  Spec.drop ((Spec.walkD ho hn hw).mono fun _ _ ⟨e1, e2⟩ => ⟨h1, e2, e1, rfl⟩)
theorem div_zero_iff (b : BitVec 32) (hb : b ≠ 0#32) : b.toInt ≠ 0 := fun e => hb (by rw [← BitVec.toInt_inj, e]; rfl)
theorem abs_le (a : BitVec 32) : a.toInt.natAbs ≤ 2147483648 := by
  have ha := BitVec.toInt_eq_toNat_cond a
  have la := a.isLt
  split at ha <;> omega
theorem size_nat (a : BitVec 32) : (BitVec.ofNat 32 a.toInt.natAbs).toNat = a.toInt.natAbs := by
  have := abs_le a
  rw [BitVec.toNat_ofNat]; omega
/-- Quotient and rest, by sizes and signs. -/
theorem quo_sign (a b : BitVec 32) : BitVec.ofInt 32 (a.toInt.tdiv b.toInt) = if decide (a.toInt < 0) != decide (b.toInt < 0) then 0 - BitVec.ofNat 32 (a.toInt.natAbs / b.toInt.natAbs) else BitVec.ofNat 32 (a.toInt.natAbs / b.toInt.natAbs) := by
  have hz : (0 : BitVec 32) = BitVec.ofInt 32 0 := rfl
  generalize a.toInt = x
  generalize b.toInt = y
  have k : ∀ m n : Nat, ((m : Int) : Int).tdiv n = ((m / n : Nat) : Int) := fun m n => by simp
  rw [← BitVec.ofInt_natCast, hz, ← ofInt_sub']
  by_cases hx : x < 0 <;> by_cases hy : y < 0 <;> simp only [hx, hy, decide_true, decide_false, bne_self_eq_false, Bool.false_eq_true, reduceIte, Bool.true_bne, Bool.false_bne, Bool.not_false, Bool.not_true]
  · have e1 : x = -((x.natAbs : Nat) : Int) := by omega
    have e2 : y = -((y.natAbs : Nat) : Int) := by omega
    rw [e1, e2, Int.neg_tdiv, Int.tdiv_neg, k]; simp
  · have e1 : x = -((x.natAbs : Nat) : Int) := by omega
    have e2 : y = ((y.natAbs : Nat) : Int) := by omega
    rw [e1, e2, Int.neg_tdiv, k]; simp
  · have e1 : x = ((x.natAbs : Nat) : Int) := by omega
    have e2 : y = -((y.natAbs : Nat) : Int) := by omega
    rw [e1, e2, Int.tdiv_neg, k]; simp
  · have e1 : x = ((x.natAbs : Nat) : Int) := by omega
    have e2 : y = ((y.natAbs : Nat) : Int) := by omega
    rw [e1, e2, k]; simp
theorem rem_sign (a b : BitVec 32) : BitVec.ofInt 32 (a.toInt.tmod b.toInt) = if a.toInt < 0 then 0 - BitVec.ofNat 32 (a.toInt.natAbs % b.toInt.natAbs) else BitVec.ofNat 32 (a.toInt.natAbs % b.toInt.natAbs) := by
  have hz : (0 : BitVec 32) = BitVec.ofInt 32 0 := rfl
  generalize a.toInt = x
  generalize b.toInt = y
  have k : ∀ m n : Nat, ((m : Int) : Int).tmod n = ((m % n : Nat) : Int) := fun m n => rfl
  rw [← BitVec.ofInt_natCast, hz, ← ofInt_sub']
  have e0 : x.tmod y = x.tmod ((y.natAbs : Nat) : Int) := by
    by_cases hy : y < 0
    · have e2 : y = -((y.natAbs : Nat) : Int) := by omega
      rw [e2, Int.tmod_neg]; simp
    · have e2 : y = ((y.natAbs : Nat) : Int) := by omega
      rw [← e2]
  rw [e0]
  by_cases hx : x < 0
  · have e1 : x = -((x.natAbs : Nat) : Int) := by omega
    rw [if_pos hx]
    rw [e1, Int.neg_tmod, k]; simp
  · have e1 : x = ((x.natAbs : Nat) : Int) := by omega
    rw [if_neg hx]
    rw [e1, k]; simp
theorem divided_spec (a b : BitVec 32) (hb : b ≠ 0#32) : Spec Tryz.prog G 122 [.int .u32 a.toNat, .int .u32 b.toNat] h
    (Is (.tup [.int .u32 (BitVec.ofInt 32 (a.toInt.tdiv b.toInt)).toNat, .int .u32 (BitVec.ofInt 32 (a.toInt.tmod b.toInt)).toNat]) h) := by
  refine Spec.isD C122ok rfl ?_
  simp only [push_cast, simprocAttr]
  intro c1 h1 c2 h2 c3 h3 c4 h4
  obtain ⟨n4, h4'⟩ := upd_none h4
  obtain ⟨n42, h4''⟩ := upd_none h4'
  obtain ⟨n41, h40⟩ := upd_none h4''
  obtain ⟨n32, h3'⟩ := upd_none h3
  obtain ⟨n31, h30⟩ := upd_none h3'
  obtain ⟨n21, h20⟩ := upd_none h2
  clear h4 h4' h4'' h3 h3' h2
  obtain ⟨H, hH⟩ : ∃ H, upd (upd (upd (upd h c1 ⟨[.int .u32 a.toNat], 0⟩) c2 ⟨[.int .u32 b.toNat], 0⟩) c3 ⟨[.int .u32 0], 0⟩) c4 ⟨[.int .u32 0], 0⟩ = H := ⟨_, rfl⟩
  have k1 : H c1 = some (cell1 a) := by rw [← hH, upd_ne (Ne.symm n41), upd_ne (Ne.symm n31), upd_ne (Ne.symm n21), upd_same]
  have k2 : H c2 = some (cell1 b) := by rw [← hH, upd_ne (Ne.symm n42), upd_ne (Ne.symm n32), upd_same]
  have k3 : H c3 = some (cell1 0) := by rw [← hH, upd_ne (Ne.symm n4), upd_same]; rfl
  have k4 : H c4 = some (cell1 0) := by rw [← hH, upd_same]; rfl
  have hs : ∀ c, c ≠ c1 → c ≠ c2 → c ≠ c3 → c ≠ c4 → H c = h c := by
    intro c q1 q2 q3 q4
    rw [← hH, upd_ne q4, upd_ne q3, upd_ne q2, upd_ne q1]
  rw [hH]
  clear hH
  simp only [push_cast, simprocAttr, k1, k2]
  refine (size_spec a).to ?_
  simp only [push_cast, simprocAttr, k1, k2]
  refine (size_spec b).to ?_
  have hbz := div_zero_iff b hb
  have hz : (((BitVec.ofNat 32 b.toInt.natAbs).toNat : Int) = 0) = False := by rw [size_nat]; simp; omega
  simp only [push_cast, simprocAttr, k1, k2, hz]
  refine (size_spec a).to ?_
  simp only [push_cast, simprocAttr, k1, k2, hz]
  refine (size_spec b).to ?_
  simp only [push_cast, simprocAttr, k1, k2, hz]
  have hq : BitVec.ofInt 32 (((BitVec.ofNat 32 a.toInt.natAbs).toNat : Int) / ((BitVec.ofNat 32 b.toInt.natAbs).toNat : Int)) = BitVec.ofNat 32 (a.toInt.natAbs / b.toInt.natAbs) := by
    rw [size_nat, size_nat, ← Int.natCast_ediv, BitVec.ofInt_natCast]
  have hm : (((BitVec.ofNat 32 a.toInt.natAbs).toNat : Int) % ((BitVec.ofNat 32 b.toInt.natAbs).toNat : Int)) = ((BitVec.ofNat 32 (a.toInt.natAbs % b.toInt.natAbs)).toNat : Int) := by
    have h1 := abs_le a
    have h2 : a.toInt.natAbs % b.toInt.natAbs ≤ a.toInt.natAbs := Nat.mod_le _ _
    rw [size_nat, size_nat, ← Int.natCast_emod]
    congr 1
    rw [BitVec.toNat_ofNat]
    exact (Nat.mod_eq_of_lt (by omega)).symm
  rw [hq, hm]
  obtain ⟨q, hqq⟩ : ∃ q, BitVec.ofNat 32 (a.toInt.natAbs / b.toInt.natAbs) = q := ⟨_, rfl⟩
  obtain ⟨r, hrr⟩ : ∃ r, BitVec.ofNat 32 (a.toInt.natAbs % b.toInt.natAbs) = r := ⟨_, rfl⟩
  have q1 := quo_sign a b
  have r1 := rem_sign a b
  rw [hqq] at q1 ⊢
  rw [hrr] at r1 ⊢
  simp only [push_cast, simprocAttr, k3]
  obtain ⟨H1, e1⟩ : ∃ H1, upd H c3 (cell1 q) = H1 := ⟨_, rfl⟩
  have l1 : H1 c1 = some (cell1 a) := by rw [← e1, upd_ne (Ne.symm n31), k1]
  have l2 : H1 c2 = some (cell1 b) := by rw [← e1, upd_ne (Ne.symm n32), k2]
  have l3 : H1 c3 = some (cell1 q) := by rw [← e1, upd_same]
  have l4 : H1 c4 = some (cell1 0) := by rw [← e1, upd_ne n4, k4]
  have ls : ∀ c, c ≠ c1 → c ≠ c2 → c ≠ c3 → c ≠ c4 → H1 c = h c := by
    intro c q1 q2 q3 q4
    rw [← e1, upd_ne q3, hs c q1 q2 q3 q4]
  rw [e1]
  clear e1
  simp only [push_cast, simprocAttr, l4]
  obtain ⟨H2, e2⟩ : ∃ H2, upd H1 c4 (cell1 r) = H2 := ⟨_, rfl⟩
  have m1 : H2 c1 = some (cell1 a) := by rw [← e2, upd_ne (Ne.symm n41), l1]
  have m2 : H2 c2 = some (cell1 b) := by rw [← e2, upd_ne (Ne.symm n42), l2]
  have m3 : H2 c3 = some (cell1 q) := by rw [← e2, upd_ne (Ne.symm n4), l3]
  have m4 : H2 c4 = some (cell1 r) := by rw [← e2, upd_same]
  have ms : ∀ c, c ≠ c1 → c ≠ c2 → c ≠ c3 → c ≠ c4 → H2 c = h c := by
    intro c q1 q2 q3 q4
    rw [← e2, upd_ne q4, ls c q1 q2 q3 q4]
  rw [e2]
  clear e2
  refine ⟨by rw [if_neg (by rw [hz]; exact id), hm, hrr], SpecD.mono (divided1_spec a b q r _ _ m1 m2 m3 m4 (Ne.symm n31) (Ne.symm n4) q1 r1) ?_⟩
  rintro _ h5 ⟨p1, p2, p3⟩
  simp only [push_cast, simprocAttr, p1, p2]
  intro c x hc
  have hne : ∀ d, h d = none → c ≠ d := fun d hd e => by rw [e, hd] at hc; cases hc
  have f1 := hne _ h1
  have f2 := hne _ h20
  have f3 := hne _ h30
  have f4 := hne _ h40
  rw [p3 c f3 f4, ms c f1 f2 f3 f4]
  exact hc
end Go.Ab
end
section
/- What instructions reckon: the program's and the document's. -/
set_option linter.unusedSimpArgs false
set_option linter.unusedVariables false
set_option maxRecDepth 10000
namespace Go.Ab
open Go.Proofs
variable {G : Glo} {h : Heap}
theorem toNat_z {b : BitVec 32} (hb : ¬ b = 0#32) : ((b.toNat : Int) == 0) = false ∧ ((b.toNat : Int) = 0) = False := by
  have : ((b.toNat : Int) == 0) = false := by
    rw [beq_eq_false_iff_ne]
    intro e
    exact hb (by rw [← BitVec.toNat_inj]; simpa using e)
  exact ⟨this, by simpa using this⟩
theorem udiv_int (a b : BitVec 32) : BitVec.ofInt 32 ((a.toNat : Int) / (b.toNat : Int)) = a / b := by
  rw [← Int.natCast_ediv, BitVec.ofInt_natCast]
  apply BitVec.eq_of_toNat_eq
  have := a.isLt
  have h2 : a.toNat / b.toNat ≤ a.toNat := Nat.div_le_self _ _
  rw [BitVec.toNat_ofNat, BitVec.toNat_udiv, Nat.mod_eq_of_lt (by omega)]
theorem umod_int (a b : BitVec 32) : ((a.toNat : Int) % (b.toNat : Int)) = ((a % b).toNat : Int) := by
  rw [BitVec.toNat_umod, Int.natCast_emod]
def quoN (a b : BitVec 32) (s : Bool) : BitVec 32 := if b = 0#32 then 0xffffffff#32 else if s then BitVec.ofInt 32 (a.toInt.tdiv b.toInt) else a / b
def remN (a b : BitVec 32) (s : Bool) : BitVec 32 := if b = 0#32 then a else if s then BitVec.ofInt 32 (a.toInt.tmod b.toInt) else a % b
theorem quotient_spec (a b : BitVec 32) (s : Bool) : Spec Tryz.prog G 117 [.int .u32 a.toNat, .int .u32 b.toNat, .bool s] h (Is (.tup [.int .u32 (quoN a b s).toNat, .int .u32 (remN a b s).toNat]) h) := by
  by_cases hb : b = 0#32
  · have h1 : quoN a b s = 0xffffffff#32 := by rw [quoN, if_pos hb]
    have h2 : remN a b s = a := by rw [remN, if_pos hb]
    have hb0 : ((b.toNat : Int) == 0) = true := by rw [hb]; rfl
    obtain ⟨v, hv⟩ : ∃ v, (0xffffffff#32) = v := ⟨_, rfl⟩
    rw [h1, h2, hv]
    refine Spec.is C117ok rfl ?_
    simp only [push_cast, simprocAttr, hb0]
    rw [← hv]; rfl
  · have h1 : quoN a b s = if s then BitVec.ofInt 32 (a.toInt.tdiv b.toInt) else a / b := by rw [quoN, if_neg hb]
    have h2 : remN a b s = if s then BitVec.ofInt 32 (a.toInt.tmod b.toInt) else a % b := by rw [remN, if_neg hb]
    obtain ⟨hb0, hb1⟩ := toNat_z hb
    rw [h1, h2]
    cases s with
    | true =>
      refine Spec.is C117ok rfl ?_
      simp only [push_cast, simprocAttr, hb0, hb1]
      refine (divided_spec a b hb).to ?_
      simp only [push_cast, simprocAttr]
    | false =>
      refine Spec.is C117ok rfl ?_
      simp only [push_cast, simprocAttr, hb0, hb1]
      rw [udiv_int, umod_int]
theorem Do_md (op : Int) (a b : BitVec 32) : Spec Tryz.prog G 101 [.int .i64 op, .int .u32 a.toNat, .int .u32 b.toNat] h (Is (.tup [.int .u32 (mdN op a b).toNat, .int .i64 (mdE op)]) h) := by
  by_cases hr : 50 ≤ op ∧ op ≤ 57
  · have hE : mdE op = 0 := by rw [mdE, if_pos hr]
    rw [hE]
    have hc : op = 50 ∨ op = 51 ∨ op = 52 ∨ op = 53 ∨ op = 54 ∨ op = 55 ∨ op = 56 ∨ op = 57 := by omega
    rcases hc with rfl | rfl | rfl | rfl | rfl | rfl | rfl | rfl
    · refine Spec.is C101ok rfl ?_
      simp only [push_cast, simprocAttr]
      rfl
    · refine Spec.is C101ok rfl ?_
      simp only [push_cast, simprocAttr]
      refine (upper_spec a b true true).to ?_
      simp only [push_cast, simprocAttr]
      rfl
    · refine Spec.is C101ok rfl ?_
      simp only [push_cast, simprocAttr]
      refine (upper_spec a b true false).to ?_
      simp only [push_cast, simprocAttr]
      rfl
    · refine Spec.is C101ok rfl ?_
      simp only [push_cast, simprocAttr]
      refine (upper_spec a b false false).to ?_
      simp only [push_cast, simprocAttr]
      show _ = AV.tup [.int .u32 (BitVec.ofNat 32 (a.toNat * b.toNat / 4294967296)).toNat, _]
      rw [← BitVec.ofInt_natCast]; rfl
    · refine Spec.is C101ok rfl ?_
      simp only [push_cast, simprocAttr]
      refine (quotient_spec a b true).to ?_
      simp only [push_cast, simprocAttr]
      rfl
    · refine Spec.is C101ok rfl ?_
      simp only [push_cast, simprocAttr]
      refine (quotient_spec a b false).to ?_
      simp only [push_cast, simprocAttr]
      rfl
    · refine Spec.is C101ok rfl ?_
      simp only [push_cast, simprocAttr]
      refine (quotient_spec a b true).to ?_
      simp only [push_cast, simprocAttr]
      rfl
    · refine Spec.is C101ok rfl ?_
      simp only [push_cast, simprocAttr]
      refine (quotient_spec a b false).to ?_
      simp only [push_cast, simprocAttr]
      rfl
  · have hE : mdE op = 9 := by rw [mdE, if_neg hr]
    have e0 : (op = 50) = False := by simp; omega
    have e1 : (op = 51) = False := by simp; omega
    have e2 : (op = 52) = False := by simp; omega
    have e3 : (op = 53) = False := by simp; omega
    have e4 : (op = 54) = False := by simp; omega
    have e5 : (op = 55) = False := by simp; omega
    have e6 : (op = 56) = False := by simp; omega
    have e7 : (op = 57) = False := by simp; omega
    have hN : mdN op a b = 0 := by simp only [mdN, e0, e1, e2, e3, e4, e5, e6, e7, if_false]
    rw [hE, hN]
    refine Spec.is C101ok rfl ?_
    simp only [push_cast, simprocAttr, e0, e1, e2, e3, e4, e5, e6, e7]
theorem prod_le {x y : Int} {M N : Nat} (hx : x.natAbs ≤ M) (hy : y.natAbs ≤ N) : (x * y).natAbs ≤ M * N := by
  rw [Int.natAbs_mul]; exact Nat.mul_le_mul hx hy
theorem wide64 (a b : BitVec 32) : (BitVec.setWidth 64 a * BitVec.setWidth 64 b).toNat = a.toNat * b.toNat := by
  have la := a.isLt
  have lb := b.isLt
  rw [BitVec.toNat_mul, sw64, sw64, Nat.mod_eq_of_lt]
  have := Nat.mul_le_mul (show a.toNat ≤ 4294967295 by omega) (show b.toNat ≤ 4294967295 by omega)
  omega
/-- Bits of two words, by a table. -/
theorem fld1 (a : BitVec 32) (k : Nat) : fld a k 1 = (a.toNat.testBit k).toNat := by
  unfold fld
  rw [Nat.testBit_eq_decide_div_mod_eq]
  have : a.toNat / 2 ^ k % 2 < 2 := Nat.mod_lt _ (by omega)
  by_cases h1 : a.toNat / 2 ^ k % 2 = 1
  · simp [h1]
  · have : a.toNat / 2 ^ k % 2 = 0 := by omega
    simp [this]
/-- What an operation that reckons gives, and whether it does. -/
def reckN (op : Int) (a b : BitVec 32) : BitVec 32 := if 50 ≤ op ∧ op ≤ 57 then mdN op a b else aluN op a b
/-- The value of an operation that asks for nothing but values. -/
def pureN (o : IOp) (a b : BitVec 32) : BitVec 32 × Bool :=
  if o.code = 2 then (o.imm, true) else if o.code = 3 then (if reckonsN o.imm.toNat then (reckN o.imm.toNat a b, true) else (0, false)) else (0, false)
theorem Pure_spec (o : IOp) (a b : BitVec 32) : Spec Tryz.prog G 79 [.agg o.cells, .int .u32 a.toNat, .int .u32 b.toNat] h (Is (.tup [.int .u32 (pureN o a b).1.toNat, .bool (pureN o a b).2]) h) := by
  obtain ⟨n, hn⟩ : ∃ n : Int, (o.imm.toNat : Int) = n := ⟨_, rfl⟩
  have hN : pureN o a b = if o.code = 2 then (o.imm, true) else if o.code = 3 then (if reckonsN n then (reckN n a b, true) else (0, false)) else (0, false) := by rw [← hn]; rfl
  generalize pureN o a b = N at hN ⊢
  have hw : IntKind.i64.wrap n = n := by rw [← hn]; exact i64_toNat _
  refine Spec.is C79ok rfl ?_
  simp only [push_cast, simprocAttr]
  by_cases h2 : o.code = 2
  · rw [if_pos h2] at hN
    subst hN
    simp only [push_cast, simprocAttr, h2]
  · rw [if_neg h2] at hN
    have h2' : (o.code = 2) = False := by simp [h2]
    by_cases h3 : o.code = 3
    · rw [if_pos h3] at hN
      simp only [push_cast, simprocAttr, h2', h3, hn]
      refine (Reckons_spec n).to ?_
      cases hr : reckonsN n with
      | false =>
        rw [hr] at hN
        subst hN
        simp only [push_cast, simprocAttr]
      | true =>
        rw [hr] at hN
        subst hN
        simp only [push_cast, simprocAttr, hn, hw]
        refine (Do_alu n a b).to ?_
        have hr' := hr
        simp only [reckonsN, Bool.or_eq_true, Bool.and_eq_true, decide_eq_true_eq] at hr'
        by_cases hm : 50 ≤ n ∧ n ≤ 57
        · have e1 : aluE n = 9 := by rw [aluE, if_neg (by omega)]
          have e2 : reckN n a b = mdN n a b := by rw [reckN, if_pos hm]
          have e3 : mdE n = 0 := by rw [mdE, if_pos hm]
          rw [e1, e2]
          simp only [push_cast, simprocAttr, hn, hw]
          refine (Do_md n a b).to ?_
          simp only [push_cast, simprocAttr, e3]
        · have e1 : aluE n = 0 := by rw [aluE, if_pos (by omega)]
          have e2 : reckN n a b = aluN n a b := by rw [reckN, if_neg hm]
          rw [e1, e2]
          simp only [push_cast, simprocAttr, hn]
    · rw [if_neg h3] at hN
      subst hN
      have h3' : (o.code = 3) = False := by simp [h3]
      have h3'' : (o.code != 3) = true := by simp [h3]
      simp only [push_cast, simprocAttr, h2', h3', h3'']
end Go.Ab
end
section
/- A block that is being done: its frame. -/
set_option linter.unusedSimpArgs false
set_option linter.unusedVariables false
set_option maxRecDepth 10000
namespace Go.Ab
open Go.Proofs
variable {G : Glo} {h : Heap}
/-- A frame's cells. -/
def fcells (b : IBk) (regs : List (BitVec 32)) (p : Nat) (vv : AV) : List AV := bkP b :: (wds regs ++ [.ptr p 0, vv])
section
variable {b : IBk} {regs : List (BitVec 32)} {p : Nat} {vv : AV}
theorem fc_len (hl : regs.length = 32) : (fcells b regs p vv).length = 35 := by simp [fcells, hl, wds]
theorem fc_0 : (fcells b regs p vv)[0]? = some (bkP b) := rfl
theorem fc_reg (hl : regs.length = 32) (i : Nat) (hi : i < 32) : (fcells b regs p vv)[1 + i]? = some (.int .u32 ((regs.getD i 0#32).toNat : Int)) := by
  rw [Nat.add_comm, fcells, List.getElem?_cons_succ, List.getElem?_append_left (by simp [wds]; omega), wds_get, if_pos (by omega)]
theorem fc_33 (hl : regs.length = 32) : (fcells b regs p vv)[33]? = some (.ptr p 0) := by
  rw [fcells, List.getElem?_cons_succ, List.getElem?_append_right (by simp [wds]; omega)]
  simp [wds, hl]
theorem fc_34 (hl : regs.length = 32) : (fcells b regs p vv)[34]? = some vv := by
  rw [fcells, List.getElem?_cons_succ, List.getElem?_append_right (by simp [wds]; omega)]
  simp [wds, hl]
theorem fc_set (hl : regs.length = 32) (v : AV) : (fcells b regs p vv).set 34 v = fcells b regs p v := by
  simp only [fcells, List.set_cons_succ]
  rw [List.set_append_right _ _ (by simp [wds]; omega)]
  simp [wds, hl]
theorem fc_regs (hl : regs.length = 32) : partOf (fcells b regs p vv) 1 (some 32) = some (.agg (wds regs)) := by
  rw [partOf_some, if_pos (by rw [fc_len hl]; omega)]
  simp only [fcells, List.drop_succ_cons, List.drop_zero]
  rw [List.take_append_of_le_length (by simp [wds]; omega), List.take_of_length_le (by simp [wds]; omega)]
end
/-- The values so far, as a row of one's own. -/
def VAt (H h0 : Heap) (l : Pl) (pf : Nat) (vv : AV) (vals : List (BitVec 32)) : Prop :=
  (vv = .nils ∧ vals = []) ∨ ∃ c pre cap sp, vv = .sl c (List.length pre) vals.length cap ∧ H c = some ⟨pre ++ wds vals, sp⟩ ∧ cap ≤ vals.length + sp ∧ c ≠ pf ∧ ¬ l.has c ∧ h0 c = none
/-- A frame, in a heap. -/
structure FAt (H h0 : Heap) (l : Pl) (M : IRam) (pf : Nat) (b : IBk) (regs : List (BitVec 32)) (vv : AV) (vals : List (BitVec 32)) : Prop where
  ram : RamAt H l M
  np : ¬ l.has pf
  nf : h0 pf = none
  fr : H pf = some ⟨fcells b regs l.p vv, 0⟩
  vs : VAt H h0 l pf vv vals
  old : ∀ c, h0 c ≠ none → ¬ l.has c → H c = h0 c
  len : regs.length = 32
section
variable {H h0 : Heap} {l : Pl} {M : IRam} {pf : Nat} {b : IBk} {regs vals : List (BitVec 32)} {vv : AV}
theorem FAt.at (hf : FAt H h0 l M pf b regs vv vals) {i : Nat} (hi : i < vals.length) : ∃ c pre cap sp, vv = .sl c (List.length pre) vals.length cap ∧ H c = some ⟨pre ++ wds vals, sp⟩ ∧ c ≠ pf ∧ ¬ l.has c := by
  rcases hf.vs with ⟨_, rfl⟩ | ⟨c, pre, cap, sp, h1, h2, _, h3, h4, _⟩
  · simp at hi
  · exact ⟨c, pre, cap, sp, h1, h2, h3, h4⟩
theorem row_get (pre : List AV) (vals : List (BitVec 32)) (i : Nat) (hi : i < vals.length) : (pre ++ wds vals)[pre.length + i]? = some (.int .u32 ((vals.getD i 0#32).toNat : Int)) := by
  rw [List.getElem?_append_right (by omega), Nat.add_sub_cancel_left, wds_get, if_pos hi]
def lv (vals : List (BitVec 32)) (n : Int) : BitVec 32 := vals.getD n.toNat 0#32
theorem value_spec' (hf : FAt H h0 l M pf b regs vv vals) (n : Int) (h0n : 0 ≤ n) (hn : n < vals.length) : Spec Tryz.prog G 75 [.int .i64 n, .cp [.ptr pf 0] 0] H (Is (.int .u32 (lv vals n).toNat) H) := by
  obtain ⟨c, pre, cap, sp, rfl, hc, hcp, hcl⟩ := hf.at (i := n.toNat) (by omega)
  have hfr := hf.fr
  have e1 := fc_34 (b := b) (p := l.p) (vv := .sl c pre.length vals.length cap) hf.len
  have e2 := row_get pre vals n.toNat (by omega)
  refine Spec.is C75ok rfl ?_
  simp only [push_cast, simprocAttr, hfr, hc, e1, e2]
  exact ⟨⟨h0n, hn⟩, rfl⟩
/-- A value, loaded; the exit, if it can't be. -/
def extI (n : Int) (w : BitVec 32) : BitVec 32 := if n = 11 then BitVec.ofNat 32 (extN w.toNat 8) else if n = 12 then BitVec.ofNat 32 (extN w.toNat 16) else w
def loadE (o : IOp) (vals : List (BitVec 32)) (M : IRam) : Int := askedN M.b.length (lv vals o.a) (loadsN o.imm.toNat)
theorem sext_c (X m P H : Nat) (q : Int) (hP : P = 2 * H) (hm : m < P) (hq : q = if H ≤ m then (m : Int) - P else m) (hle : P ≤ 4294967296) : BitVec.ofInt 32 q = BitVec.ofNat 32 (if H ≤ m then m + 4294967296 - P else m) := by
  subst hq
  split
  · exact (ofInt_congr (-1) (by omega)).trans (BitVec.ofInt_natCast ..)
  · exact BitVec.ofInt_natCast ..
theorem sext8 (w : BitVec 32) : BitVec.ofInt 32 ((w <<< 24).toInt.fdiv (2 ^ 24)) = BitVec.ofNat 32 (extN w.toNat 8) := by
  have h1 := BitVec.toInt_eq_toNat_cond (w <<< 24)
  rw [BitVec.toNat_shiftLeft, Nat.shiftLeft_eq] at h1
  refine sext_c 0 (w.toNat % 256) 256 128 _ rfl (Nat.mod_lt _ (by omega)) ?_ (by omega)
  rw [pow_int, Int.fdiv_eq_ediv_of_nonneg _ (Int.natCast_nonneg _), h1]
  split <;> split <;> omega
theorem sext16 (w : BitVec 32) : BitVec.ofInt 32 ((w <<< 16).toInt.fdiv (2 ^ 16)) = BitVec.ofNat 32 (extN w.toNat 16) := by
  have h1 := BitVec.toInt_eq_toNat_cond (w <<< 16)
  rw [BitVec.toNat_shiftLeft, Nat.shiftLeft_eq] at h1
  refine sext_c 0 (w.toNat % 65536) 65536 32768 _ rfl (Nat.mod_lt _ (by omega)) ?_ (by omega)
  rw [pow_int, Int.fdiv_eq_ediv_of_nonneg _ (Int.natCast_nonneg _), h1]
  split <;> split <;> omega
theorem wExtend8 (w : BitVec 32) : Spec Tryz.prog G 97 [.int .u32 w.toNat, .int .i64 8] h (Is (.tup [.int .u32 (BitVec.ofNat 32 (extN w.toNat 8)).toNat, .int .i64 0]) h) := by
  refine Spec.is C97ok rfl ?_
  simp only [push_cast, simprocAttr]
  rw [wrap_i64 (by omega) (by omega), show (BitVec.ofInt 64 24).toNat = 24 from rfl, show min 24 32 = 24 from rfl, sext8]
theorem wExtend16 (w : BitVec 32) : Spec Tryz.prog G 97 [.int .u32 w.toNat, .int .i64 16] h (Is (.tup [.int .u32 (BitVec.ofNat 32 (extN w.toNat 16)).toNat, .int .i64 0]) h) := by
  refine Spec.is C97ok rfl ?_
  simp only [push_cast, simprocAttr]
  rw [wrap_i64 (by omega) (by omega), show (BitVec.ofInt 64 16).toNat = 16 from rfl, show min 16 32 = 16 from rfl, sext16]
theorem load_spec (hf : FAt H h0 l M pf b regs vv vals) (o : IOp) (h1 : 0 ≤ o.a) (h2 : o.a < vals.length) : Spec Tryz.prog G 76 [.ptr pf 0, .agg o.cells] H
    (Is (if loadE o vals M = 0 then .tup [.int .u32 (extI o.imm.toNat (M.load (lv vals o.a) (loadsN o.imm.toNat).toNat)).toNat, .int .i64 (-1)] else .tup [.int .u32 0, .int .i64 o.x]) H) := by
  obtain ⟨c, pre, cap, sp, rfl, hc, hcp, hcl⟩ := hf.at (i := o.a.toNat) (by omega)
  have hfr := hf.fr
  have e1 := fc_34 (b := b) (p := l.p) (vv := .sl c pre.length vals.length cap) hf.len
  have e3 := fc_33 (b := b) (p := l.p) (vv := .sl c pre.length vals.length cap) hf.len
  have e2 := row_get pre vals o.a.toNat (by omega)
  have hL := Load_spec (G := G) hf.ram (lv vals o.a) (loadsN o.imm.toNat)
  refine Spec.is C76ok rfl ?_
  simp only [push_cast, simprocAttr, hfr, hc, e1, e2, e3]
  refine ⟨⟨h1, h2⟩, (Loads_spec _).to ?_⟩
  simp only [push_cast, simprocAttr, hfr, hc, e1, e2, e3]
  have hLE : loadE o vals M = askedN M.b.length (lv vals o.a) (loadsN o.imm.toNat) := rfl
  rw [← hLE] at hL
  obtain ⟨n, hn⟩ : ∃ n : Int, (o.imm.toNat : Int) = n := ⟨_, rfl⟩
  have hw : IntKind.i64.wrap n = n := by rw [← hn]; exact i64_toNat _
  generalize loadE o vals M = E at hL ⊢
  rw [hn] at hL ⊢
  refine ⟨by rw [if_pos ⟨h1, h2⟩], hL.to ?_⟩
  by_cases hE : E = 0
  · rw [if_pos hE, if_pos hE]
    subst hE
    generalize M.load (lv vals o.a) (loadsN n).toNat = w
    by_cases h11 : n = 11
    · subst h11
      simp only [push_cast, simprocAttr, hfr, hc, e1, e2, e3, hn, hw]
      refine (wExtend8 _).to ?_
      simp only [push_cast, simprocAttr]
      simp [extI]
    · have h11' : (n = 11) = False := by simp [h11]
      by_cases h12 : n = 12
      · subst h12
        simp only [push_cast, simprocAttr, hfr, hc, e1, e2, e3, hn, hw]
        refine (wExtend16 _).to ?_
        simp only [push_cast, simprocAttr]
        simp [extI]
      · have h12' : (n = 12) = False := by simp [h12]
        simp only [push_cast, simprocAttr, hfr, hc, e1, e2, e3, hn, hw, h11', h12']
        simp [extI, h11, h12]
  · rw [if_neg hE, if_neg hE]
    have hE' : (E = 0) = False := by simp [hE]
    simp only [push_cast, simprocAttr, hfr, hc, e1, e2, e3, hn, hw, hE']
def storeE (o : IOp) (vals : List (BitVec 32)) (M : IRam) : Int := askedN M.b.length (lv vals o.a) (storesN o.imm.toNat)
def storeR (o : IOp) (vals : List (BitVec 32)) (M : IRam) : IRam × Bool := M.store (lv vals o.a) (storesN o.imm.toNat).toNat (lv vals o.b)
def storeX (o : IOp) (vals : List (BitVec 32)) (M : IRam) : Int × IRam := if storeE o vals M = 0 then (if (storeR o vals M).2 then o.y else -1, (storeR o vals M).1) else (o.x, M)
theorem store_spec (hf : FAt H h0 l M pf b regs vv vals) (o : IOp) (h1 : 0 ≤ o.a) (h2 : o.a < vals.length) (h3 : 0 ≤ o.b) (h4 : o.b < vals.length) : Spec Tryz.prog G 77 [.ptr pf 0, .agg o.cells] H
    (RamTo l (storeX o vals M).2 (.int .i64 (storeX o vals M).1) H) := by
  obtain ⟨c, pre, cap, sp, rfl, hc, hcp, hcl⟩ := hf.at (i := o.a.toNat) (by omega)
  have hfr := hf.fr
  have e1 := fc_34 (b := b) (p := l.p) (vv := .sl c pre.length vals.length cap) hf.len
  have e3 := fc_33 (b := b) (p := l.p) (vv := .sl c pre.length vals.length cap) hf.len
  have e2 := row_get pre vals o.a.toNat (by omega)
  have e4 := row_get pre vals o.b.toNat (by omega)
  have hL := Store_spec (G := G) hf.ram (lv vals o.a) (storesN o.imm.toNat) (lv vals o.b)
  have hX : storeX o vals M = if storeE o vals M = 0 then (if (storeR o vals M).2 then o.y else -1, (storeR o vals M).1) else (o.x, M) := rfl
  refine Spec.walk C77ok rfl ?_
  simp only [push_cast, simprocAttr, hfr, hc, e1, e2, e3, e4]
  refine ⟨⟨h1, h2⟩, ⟨h3, h4⟩, (Stores_spec _).to ?_⟩
  simp only [push_cast, simprocAttr, hfr, hc, e1, e2, e3, e4]
  change Spec _ _ _ _ _ (if storeE o vals M = 0 then RamTo l (storeR o vals M).1 (.tup [.bool (storeR o vals M).2, .int .i64 0]) H else RamTo l M (.tup [.bool false, .int .i64 (storeE o vals M)]) H) at hL
  refine ⟨⟨by rw [if_pos ⟨h1, h2⟩], by rw [if_pos ⟨h3, h4⟩]⟩, ?_⟩
  generalize storeE o vals M = E at hL hX
  generalize storeR o vals M = R at hL hX
  obtain ⟨M', hit⟩ := R
  by_cases hE : E = 0
  · rw [if_pos hE] at hL hX
    subst hE
    rw [hX]
    refine hL.mono ?_
    rintro _ H' ⟨rfl, hr', hs'⟩
    have hfr' := (hs' pf hf.np).trans hfr
    have hc' := (hs' c hcl).trans hc
    simp only [push_cast, simprocAttr, hfr', hc', e1, e2, e3, e4]
    refine ⟨fun ht => ?_, fun ht => ?_⟩
    · exact ⟨by rw [if_pos ht], hr', hs'⟩
    · exact ⟨by rw [if_neg (by rw [ht]; simp)], hr', hs'⟩
  · rw [if_neg hE] at hL hX
    rw [hX]
    refine hL.mono ?_
    rintro _ H' ⟨rfl, hr', hs'⟩
    have hfr' := (hs' pf hf.np).trans hfr
    have hc' := (hs' c hcl).trans hc
    have hE' : (E = 0) = False := by simp [hE]
    simp only [push_cast, simprocAttr, hfr', hc', e1, e2, e3, e4, hE']
    exact ⟨rfl, hr', hs'⟩
/-- A branch. -/
def takenN (n : Int) (a b : BitVec 32) : Bool := if n = 5 then decide (a = b) else if n = 6 then decide (a ≠ b) else if n = 7 then decide (a.toInt < b.toInt) else if n = 8 then decide (b.toInt ≤ a.toInt) else if n = 9 then decide (a.toNat < b.toNat) else decide (b.toNat ≤ a.toNat)
theorem Taken_spec (n : Int) (a b : BitVec 32) (hn : 5 ≤ n ∧ n ≤ 10) : Spec Tryz.prog G 78 [.int .i64 n, .int .u32 a.toNat, .int .u32 b.toNat] h (Is (.tup [.bool (takenN n a b), .int .i64 0]) h) := by
  have hc : n = 5 ∨ n = 6 ∨ n = 7 ∨ n = 8 ∨ n = 9 ∨ n = 10 := by omega
  rcases hc with rfl | rfl | rfl | rfl | rfl | rfl
  all_goals
    refine Spec.is C78ok rfl ?_
    simp only [push_cast, simprocAttr]
    simp [takenN]
    try (rw [Bool.eq_iff_iff]; simp)
/-- What an operation does: its value, the exit that it takes (-1: none), and the memory behind it. -/
def stepN (regs : List (BitVec 32)) (o : IOp) (vals : List (BitVec 32)) (M : IRam) : BitVec 32 × Int × IRam :=
  if o.code = 1 then (regs.getD o.imm.toNat 0#32, -1, M)
  else if o.code = 4 then (if loadE o vals M = 0 then (extI o.imm.toNat (M.load (lv vals o.a) (loadsN o.imm.toNat).toNat), -1, M) else (0, o.x, M))
  else if o.code = 5 then (0, storeX o vals M)
  else if o.code = 6 then (0, if takenN o.imm.toNat (lv vals o.a) (lv vals o.b) then -1 else o.x, M)
  else if o.code = 3 then (reckN o.imm.toNat (lv vals o.a) (lv vals o.b), -1, M)
  else (o.imm, -1, M)
/-- Behind an operation. -/
def OpTo (h0 : Heap) (l : Pl) (pf : Nat) (b : IBk) (regs vals : List (BitVec 32)) (w : BitVec 32) (x : Int) (M : IRam) (r : AV) (H : Heap) : Prop := r = .int .i64 x ∧ ∃ vv, FAt H h0 l M pf b regs vv (vals ++ [w])
/-- What is right of an operation that is done. -/
def okOp (o : IOp) (n : Nat) : Prop := (1 ≤ o.code ∧ o.code ≤ 6) ∧ (o.code = 1 → o.imm.toNat ≤ 31) ∧ (o.code = 3 → reckonsN o.imm.toNat = true) ∧ (o.code = 6 → 5 ≤ (o.imm.toNat : Int) ∧ (o.imm.toNat : Int) ≤ 10) ∧
  (3 ≤ o.code → 0 ≤ o.a ∧ o.a < n) ∧ (o.code = 3 ∨ o.code = 5 ∨ o.code = 6 → 0 ≤ o.b ∧ o.b < n)
/-- The value is laid behind the others. -/
theorem FAt.push (hf : FAt H h0 l M pf b regs vv vals) (w : BitVec 32) (hn : vals.length ≤ 1000) {Q : AV → Heap → Prop} (hq : ∀ v' H', cellsOf v' = some [v'] → H' pf = some ⟨fcells b regs l.p vv, 0⟩ → FAt (Ab.upd H' pf ⟨fcells b regs l.p v', 0⟩) h0 l M pf b regs v' (vals ++ [w]) → Q v' H') :
    appQ 1 4 1 [.int .u32 (w.toNat : Int)] vv H Q := by
  have hlen := hf.len
  have fin : ∀ (c : Nat) (pre : List AV) (cap sp : Nat) (H1 : Heap), H1 c = some ⟨pre ++ (wds vals ++ [.int .u32 (w.toNat : Int)]), sp⟩ → cap ≤ vals.length + 1 + sp → c ≠ pf → ¬ l.has c → h0 c = none → (∀ d, d ≠ c → h0 d ≠ none ∨ l.has d ∨ d = pf → H1 d = H d) → Q (.sl c pre.length (vals.length + 1) cap) H1 := by
    intro c pre cap sp H1 k1 k2 k3 k4 k5 k6
    have hpf := k6 pf (Ne.symm k3) (.inr (.inr rfl))
    refine hq _ _ rfl (hpf.trans hf.fr) ⟨?_, hf.np, hf.nf, upd_same _ _ _, .inr ⟨c, pre, cap, sp, by simp, ?_, by simpa using k2, k3, k4, k5⟩, fun d hd hl => ?_, hlen⟩
    · refine RamAt.upd ?_ hf.np
      have hm : ∀ d, l.has d → H1 d = H d := fun d hd => k6 d (fun e => k4 (e ▸ hd)) (.inr (.inl hd))
      exact ⟨hf.ram.ok, hf.ram.wf, (hm _ (.inl rfl)).trans hf.ram.hp, (hm _ (.inr (.inl rfl))).trans hf.ram.hb, (hm _ (.inr (.inr (.inl rfl)))).trans hf.ram.hw, (hm _ (.inr (.inr (.inr rfl)))).trans hf.ram.hg⟩
    · rw [upd_ne k3, k1]; simp [wds]
    · have d1 : d ≠ pf := fun e => hd (e ▸ hf.nf)
      have d2 : d ≠ c := fun e => hd (e ▸ k5)
      rw [upd_ne d1, k6 d d2 (.inl hd), hf.old d hd hl]
  rcases hf.vs with ⟨rfl, rfl⟩ | ⟨c, pre, cap, sp, rfl, hc, hcap, h3, h4, h5⟩
  · simp only [appQ]
    refine ⟨by decide, by decide, fun e => by omega, fun _ c cap hc hle => ?_⟩
    have hne : c ≠ pf := fun e => by rw [e, hf.fr] at hc; cases hc
    have hnl := hf.ram.not hc
    refine fin c [] cap ((cap - 1) * 1) _ (upd_same _ _ _) (by simp; omega) hne hnl ?_ (fun d hd _ => upd_ne hd)
    cases e : h0 c with
    | none => rfl
    | some x => rw [hf.old c (by rw [e]; simp) hnl, e] at hc; cases hc
  · simp only [appQ, hc]
    refine ⟨by simp [wds], by omega, by omega, by omega, fun c' pre' cap' sp' hc' hcap' => ?_⟩
    have hne : c' ≠ pf := by
      rcases hc' with rfl | hc'
      · exact h3
      · exact fun e => by rw [e, hf.fr] at hc'; cases hc'
    have hnl : ¬ l.has c' := by
      rcases hc' with rfl | hc'
      · exact h4
      · exact hf.ram.not hc'
    refine fin c' pre' cap' sp' _ ?_ (by omega) hne hnl ?_ (fun d hd hd2 => ?_)
    · rw [upd_same]; simp [List.append_assoc]
    · rcases hc' with rfl | hc'
      · exact h5
      · cases e : h0 c' with
        | none => rfl
        | some x => rw [hf.old c' (by rw [e]; simp) hnl, e] at hc'; cases hc'
    · have hdc : d ≠ c := by
        rintro rfl
        rcases hd2 with q | q | q
        · exact q h5
        · exact h4 q
        · exact h3 q
      rw [upd_ne hd]
      simp [era, hdc]
theorem FAt.ramTo (hf : FAt H h0 l M pf b regs vv vals) {H1 : Heap} {M1 : IRam} (hr : RamAt H1 l M1) (hs : ∀ c, ¬ l.has c → H1 c = H c) : FAt H1 h0 l M1 pf b regs vv vals := by
  refine ⟨hr, hf.np, hf.nf, (hs pf hf.np).trans hf.fr, ?_, fun c hc hl => (hs c hl).trans (hf.old c hc hl), hf.len⟩
  rcases hf.vs with h | ⟨c, pre, cap, sp, k1, k2, k3, k4, k5, k6⟩
  · exact .inl h
  · exact .inr ⟨c, pre, cap, sp, k1, (hs c k5).trans k2, k3, k4, k5, k6⟩
theorem op_spec' (hf : FAt H h0 l M pf b regs vv vals) (o : IOp) (hk : okOp o vals.length) (hn : vals.length ≤ 1000) : Spec Tryz.prog G 46 [.ptr pf 0, .agg o.cells] H
    (OpTo h0 l pf b regs vals (stepN regs o vals M).1 (stepN regs o vals M).2.1 (stepN regs o vals M).2.2) := by
  obtain ⟨k0, k1, k3, k6, ka, kb⟩ := hk
  have hfr := hf.fr
  have hlen := hf.len
  have e34 := fc_34 (b := b) (p := l.p) (vv := vv) hlen
  have hc : o.code = 1 ∨ o.code = 2 ∨ o.code = 3 ∨ o.code = 4 ∨ o.code = 5 ∨ o.code = 6 := by omega
  rcases hc with hc | hc | hc | hc | hc | hc
  · have hi := k1 hc
    have er := fc_reg (b := b) (p := l.p) (vv := vv) hlen o.imm.toNat (by omega)
    have hN : stepN regs o vals M = (regs.getD o.imm.toNat 0#32, -1, M) := by rw [stepN, if_pos hc]
    rw [hN]
    refine Spec.walk C46ok rfl ?_
    simp only [push_cast, simprocAttr, hfr, hc, er, e34]
    refine ⟨by omega, hf.push _ hn fun v' H' hv hfr' hF => ?_⟩
    simp only [push_cast, simprocAttr, hfr', hv, fc_set hlen, fc_len hlen]
    exact ⟨rfl, v', hF⟩
  · have hN : stepN regs o vals M = (o.imm, -1, M) := by simp [stepN, hc]
    rw [hN]
    refine Spec.walk C46ok rfl ?_
    simp only [push_cast, simprocAttr, hfr, hc, e34]
    refine hf.push _ hn fun v' H' hv hfr' hF => ?_
    simp only [push_cast, simprocAttr, hfr', hv, fc_set hlen, fc_len hlen]
    exact ⟨rfl, v', hF⟩
  · obtain ⟨a1, a2⟩ := ka (by omega)
    obtain ⟨b1, b2⟩ := kb (.inl hc)
    have hN : stepN regs o vals M = (reckN o.imm.toNat (lv vals o.a) (lv vals o.b), -1, M) := by simp [stepN, hc]
    have hP : pureN o (lv vals o.a) (lv vals o.b) = (reckN o.imm.toNat (lv vals o.a) (lv vals o.b), true) := by simp [pureN, hc, k3 hc]
    have hS := Pure_spec (G := G) (h := H) o (lv vals o.a) (lv vals o.b)
    rw [hP] at hS
    rw [hN]
    refine Spec.walk C46ok rfl ?_
    simp only [push_cast, simprocAttr, hfr, hc, e34]
    refine ⟨⟨_, C75ok.hf, rfl, rfl⟩, (value_spec' hf o.a a1 a2).to ?_⟩
    simp only [push_cast, simprocAttr, hfr, hc, e34]
    refine ⟨⟨_, C75ok.hf, rfl, rfl⟩, (value_spec' hf o.b b1 b2).to ?_⟩
    simp only [push_cast, simprocAttr, hfr, hc, e34]
    refine hS.to ?_
    simp only [push_cast, simprocAttr, hfr, hc, e34]
    refine hf.push _ hn fun v' H' hv hfr' hF => ?_
    simp only [push_cast, simprocAttr, hfr', hv, fc_set hlen, fc_len hlen]
    exact ⟨rfl, v', hF⟩
  · obtain ⟨a1, a2⟩ := ka (by omega)
    have hS := load_spec (G := G) hf o a1 a2
    have hN : stepN regs o vals M = if loadE o vals M = 0 then (extI o.imm.toNat (M.load (lv vals o.a) (loadsN o.imm.toNat).toNat), -1, M) else (0, o.x, M) := by simp [stepN, hc]
    by_cases hE : loadE o vals M = 0
    · rw [if_pos hE] at hS hN
      rw [hN]
      refine Spec.walk C46ok rfl ?_
      simp only [push_cast, simprocAttr, hfr, hc, e34]
      refine hS.to ?_
      simp only [push_cast, simprocAttr, hfr, hc, e34]
      refine hf.push _ hn fun v' H' hv hfr' hF => ?_
      simp only [push_cast, simprocAttr, hfr', hv, fc_set hlen, fc_len hlen]
      exact ⟨rfl, v', hF⟩
    · rw [if_neg hE] at hS hN
      rw [hN]
      refine Spec.walk C46ok rfl ?_
      simp only [push_cast, simprocAttr, hfr, hc, e34]
      refine hS.to ?_
      simp only [push_cast, simprocAttr, hfr, hc, e34]
      refine hf.push 0 hn fun v' H' hv hfr' hF => ?_
      simp only [push_cast, simprocAttr, hfr', hv, fc_set hlen, fc_len hlen]
      exact ⟨rfl, v', hF⟩
  · obtain ⟨a1, a2⟩ := ka (by omega)
    obtain ⟨b1, b2⟩ := kb (.inr (.inl hc))
    have hS := store_spec (G := G) hf o a1 a2 b1 b2
    have hN : stepN regs o vals M = (0, storeX o vals M) := by simp [stepN, hc]
    rw [hN]
    refine Spec.walk C46ok rfl ?_
    simp only [push_cast, simprocAttr, hfr, hc, e34]
    refine hS.mono ?_
    rintro _ H1 ⟨rfl, hr1, hs1⟩
    have hf1 := hf.ramTo hr1 hs1
    have hfr1 := hf1.fr
    simp only [push_cast, simprocAttr, hfr1, hc, e34]
    refine hf1.push 0 hn fun v' H' hv hfr' hF => ?_
    simp only [push_cast, simprocAttr, hfr', hv, fc_set hlen, fc_len hlen]
    exact ⟨rfl, v', hF⟩
  · obtain ⟨a1, a2⟩ := ka (by omega)
    obtain ⟨b1, b2⟩ := kb (.inr (.inr hc))
    have hS := Taken_spec (G := G) (h := H) o.imm.toNat (lv vals o.a) (lv vals o.b) (k6 hc)
    have hN : stepN regs o vals M = (0, if takenN o.imm.toNat (lv vals o.a) (lv vals o.b) then -1 else o.x, M) := by simp [stepN, hc]
    rw [hN]
    refine Spec.walk C46ok rfl ?_
    simp only [push_cast, simprocAttr, hfr, hc, e34]
    refine ⟨⟨_, C75ok.hf, rfl, rfl⟩, (value_spec' hf o.a a1 a2).to ?_⟩
    simp only [push_cast, simprocAttr, hfr, hc, e34]
    refine ⟨⟨_, C75ok.hf, rfl, rfl⟩, (value_spec' hf o.b b1 b2).to ?_⟩
    simp only [push_cast, simprocAttr, hfr, hc, e34]
    refine hS.to ?_
    cases hT : takenN o.imm.toNat (lv vals o.a) (lv vals o.b) with
    | true =>
      simp only [push_cast, simprocAttr, hfr, hc, e34]
      refine hf.push 0 hn fun v' H' hv hfr' hF => ?_
      simp only [push_cast, simprocAttr, hfr', hv, fc_set hlen, fc_len hlen]
      exact ⟨rfl, v', hF⟩
    | false =>
      simp only [push_cast, simprocAttr, hfr, hc, e34]
      refine hf.push 0 hn fun v' H' hv hfr' hF => ?_
      simp only [push_cast, simprocAttr, hfr', hv, fc_set hlen, fc_len hlen]
      exact ⟨rfl, v', hF⟩
end
end Go.Ab
end
section
/- A block that is being done: its exits. -/
set_option linter.unusedSimpArgs false
set_option linter.unusedVariables false
set_option maxRecDepth 10000
namespace Go.Ab
open Go.Proofs
variable {G : Glo} {h : Heap}
/-- What is behind a block, as it is laid. -/
def outC (regs : List (BitVec 32)) (pc : BitVec 32) (done why exit : Int) : List AV := wds regs ++ [.int .u32 pc.toNat, .int .i64 done, .int .i64 why, .int .i64 exit]
section
variable {regs : List (BitVec 32)} {pc : BitVec 32} {done why exit : Int}
theorem oc_len (hl : regs.length = 32) : (outC regs pc done why exit).length = 36 := by simp [outC, hl, wds]
theorem oc_set (hl : regs.length = 32) (i : Nat) (hi : i < 32) (w : BitVec 32) : (outC regs pc done why exit).set i (.int .u32 w.toNat) = outC (regs.set i w) pc done why exit := by
  rw [outC, List.set_append_left _ _ (by simp [wds]; omega)]
  simp [outC, wds, List.map_set]
theorem oc_pc (hl : regs.length = 32) (w : BitVec 32) : (outC regs pc done why exit).set 32 (.int .u32 w.toNat) = outC regs w done why exit := by
  rw [outC, List.set_append_right _ _ (by simp [wds]; omega)]
  simp [outC, wds, hl]
theorem oc_all (hl : regs.length = 32) : partOf (outC regs pc done why exit) 0 (some 36) = some (.agg (outC regs pc done why exit)) := partOf_all (oc_len hl)
theorem oc_put (hl : regs.length = 32) (Z : List AV) (hz : Z.length = 36) : splice Z 0 (outC regs pc done why exit) = outC regs pc done why exit := splice_all' (by rw [oc_len hl, hz])
def Z36 : List AV := [.int .u32 0, .int .u32 0, .int .u32 0, .int .u32 0, .int .u32 0, .int .u32 0, .int .u32 0, .int .u32 0, .int .u32 0, .int .u32 0, .int .u32 0, .int .u32 0, .int .u32 0, .int .u32 0, .int .u32 0, .int .u32 0, .int .u32 0, .int .u32 0, .int .u32 0, .int .u32 0, .int .u32 0, .int .u32 0, .int .u32 0, .int .u32 0, .int .u32 0, .int .u32 0, .int .u32 0, .int .u32 0, .int .u32 0, .int .u32 0, .int .u32 0, .int .u32 0, .int .u32 0, .int .i64 0, .int .i64 0, .int .i64 0]
theorem oc_z (hl : regs.length = 32) : splice [.int .u32 0, .int .u32 0, .int .u32 0, .int .u32 0, .int .u32 0, .int .u32 0, .int .u32 0, .int .u32 0, .int .u32 0, .int .u32 0, .int .u32 0, .int .u32 0, .int .u32 0, .int .u32 0, .int .u32 0, .int .u32 0, .int .u32 0, .int .u32 0, .int .u32 0, .int .u32 0, .int .u32 0, .int .u32 0, .int .u32 0, .int .u32 0, .int .u32 0, .int .u32 0, .int .u32 0, .int .u32 0, .int .u32 0, .int .u32 0, .int .u32 0, .int .u32 0, .int .u32 0, .int .i64 0, .int .i64 0, .int .i64 0] 0 (wds regs) = outC regs 0#32 0 0 0 := by
  have hw : (wds regs).length = 32 := by simp [wds, hl]
  rw [splice_ne (by omega), List.take_zero, List.nil_append, Nat.zero_add, hw]
  rfl
theorem oc_put36 (hl : regs.length = 32) : splice [.int .u32 0, .int .u32 0, .int .u32 0, .int .u32 0, .int .u32 0, .int .u32 0, .int .u32 0, .int .u32 0, .int .u32 0, .int .u32 0, .int .u32 0, .int .u32 0, .int .u32 0, .int .u32 0, .int .u32 0, .int .u32 0, .int .u32 0, .int .u32 0, .int .u32 0, .int .u32 0, .int .u32 0, .int .u32 0, .int .u32 0, .int .u32 0, .int .u32 0, .int .u32 0, .int .u32 0, .int .u32 0, .int .u32 0, .int .u32 0, .int .u32 0, .int .u32 0, .int .u32 0, .int .i64 0, .int .i64 0, .int .i64 0] 0 (outC regs pc done why exit) = outC regs pc done why exit := oc_put hl _ rfl
theorem oc_33 (hl : regs.length = 32) (d : Int) : (outC regs pc done why exit).set 33 (.int .i64 d) = outC regs pc d why exit := by
  rw [outC, List.set_append_right _ _ (by simp [wds]; omega)]
  simp [outC, wds, hl]
theorem oc_34 (hl : regs.length = 32) (d : Int) : (outC regs pc done why exit).set 34 (.int .i64 d) = outC regs pc done d exit := by
  rw [outC, List.set_append_right _ _ (by simp [wds]; omega)]
  simp [outC, wds, hl]
theorem oc_35 (hl : regs.length = 32) (d : Int) : (outC regs pc done why exit).set 35 (.int .i64 d) = outC regs pc done why d := by
  rw [outC, List.set_append_right _ _ (by simp [wds]; omega)]
  simp [outC, wds, hl]
end
def foldR (vals : List (BitVec 32)) (m : List IVl) (regs : List (BitVec 32)) : List (BitVec 32) := m.foldl (fun r v => r.set v.reg.toNat (lv vals v.val)) regs
theorem foldR_len (vals m regs) : (foldR vals m regs).length = regs.length := by
  unfold foldR
  induction m generalizing regs with
  | nil => rfl
  | cons v m ih => simp [List.foldl_cons, ih]
theorem foldR_take (vals : List (BitVec 32)) (m : List IVl) (regs : List (BitVec 32)) (k : Nat) (hk : k < m.length) : foldR vals (m.take (k + 1)) regs = (foldR vals (m.take k) regs).set (m.getD k IVl.zero).reg.toNat (lv vals (m.getD k IVl.zero).val) := by
  unfold foldR
  rw [List.take_add_one, List.getElem?_eq_getElem hk, List.foldl_append]
  simp [hk]
def leaveR (e : IEx) (regs vals : List (BitVec 32)) : List (BitVec 32) := foldR vals e.map regs
def leaveP (e : IEx) (vals : List (BitVec 32)) : BitVec 32 := if e.to = -1 then e.pc else lv vals e.to
/-- What is right of an exit that is taken. -/
def okEx (e : IEx) (n : Nat) : Prop := (∀ i, i < e.map.length → (0 ≤ (e.vl i).val ∧ (e.vl i).val < n) ∧ 0 ≤ (e.vl i).reg ∧ (e.vl i).reg ≤ 31) ∧ (e.to = -1 ∨ 0 ≤ e.to ∧ e.to < n)
section
variable {H h0 : Heap} {l : Pl} {M : IRam} {pf : Nat} {b : IBk} {regs vals : List (BitVec 32)} {vv : AV}
theorem leave_spec (hf : FAt H h0 l M pf b regs vv vals) (n : Int) (h1 : 0 ≤ n) (h2 : n < b.exits.length) (hm : (b.ex n.toNat).map.length ≤ 1000) (he : okEx (b.ex n.toNat) vals.length) :
    Spec Tryz.prog G 47 [.ptr pf 0, .int .i64 n] H
    (Is (.agg (outC (leaveR (b.ex n.toNat) regs vals) (leaveP (b.ex n.toNat) vals) (b.ex n.toNat).done (b.ex n.toNat).why n)) H) := by
  have hfr := hf.fr
  have hlen := hf.len
  have e34 := fc_34 (b := b) (p := l.p) (vv := vv) hlen
  have e0 : (fcells b regs l.p vv)[0]? = some (bkP b) := rfl
  have er := fc_regs (b := b) (p := l.p) (vv := vv) hlen
  have hx : (b.exits.getD n.toNat IEx.zero) = b.ex n.toNat := rfl
  generalize b.ex n.toNat = e at *
  refine Spec.is C47ok rfl ?_
  simp only [push_cast, simprocAttr, hfr, e0]
  intro c4 hc4
  have n4 : c4 ≠ pf := fun e => by rw [e, hfr] at hc4; cases hc4
  obtain ⟨H4, hH4⟩ : ∃ H4, upd H c4 ⟨[.int .u32 0, .int .u32 0, .int .u32 0, .int .u32 0, .int .u32 0, .int .u32 0, .int .u32 0, .int .u32 0, .int .u32 0, .int .u32 0, .int .u32 0, .int .u32 0, .int .u32 0, .int .u32 0, .int .u32 0, .int .u32 0, .int .u32 0, .int .u32 0, .int .u32 0, .int .u32 0, .int .u32 0, .int .u32 0, .int .u32 0, .int .u32 0, .int .u32 0, .int .u32 0, .int .u32 0, .int .u32 0, .int .u32 0, .int .u32 0, .int .u32 0, .int .u32 0, .int .u32 0, .int .i64 0, .int .i64 0, .int .i64 0], 0⟩ = H4 := ⟨_, rfl⟩
  have p4 : H4 pf = some ⟨fcells b regs l.p vv, 0⟩ := by rw [← hH4, upd_ne (Ne.symm n4)]; exact hfr
  have z4 : ∃ Z : List AV, Z.length = 36 ∧ H4 c4 = some ⟨Z, 0⟩ := ⟨_, rfl, by rw [← hH4, upd_same]⟩
  have s4 : ∀ d, d ≠ c4 → H4 d = H d := fun d hd => by rw [← hH4, upd_ne hd]
  rw [hH4]
  clear hH4
  obtain ⟨Z, hZ, z4⟩ := z4
  simp only [push_cast, simprocAttr, p4, e0]
  refine ⟨⟨h1, h2⟩, by omega, fun c5 hc5 => ?_⟩
  rw [hx]
  rw [era_none hc5]
  have hA : hlen = hlen := rfl
  simp only [push_cast, simprocAttr, p4, e0, er, oc_z hlen, oc_pc hlen, oc_33 hlen, oc_34 hlen, oc_35 hlen, oc_len hlen, hlen]
  intro c6 hc6
  have n6 : c6 ≠ pf := fun e => by rw [e, p4] at hc6; cases hc6
  have n64 : c6 ≠ c4 := fun e => by rw [e, z4] at hc6; cases hc6
  refine ⟨by rw [upd_ne (Ne.symm n6), p4]; exact er, ?_⟩
  have hsub : ∀ (c4 : Nat), H c4 = none → ∀ (H6 : Heap), (∀ c, H c ≠ none → H6 c = H c) → ∀ X, Sub H (upd H6 c4 X) := by
    intro c4 hc4 H6 s6 X d x hd
    have d4 : d ≠ c4 := fun e => by rw [e, hc4] at hd; cases hd
    rw [upd_ne d4, s6 d (by rw [hd]; simp), hd]
  have hmap : ∀ i, i < e.map.length → (0 ≤ (e.map.getD i IVl.zero).val ∧ (e.map.getD i IVl.zero).val < vals.length) ∧ 0 ≤ (e.map.getD i IVl.zero).reg ∧ (e.map.getD i IVl.zero).reg ≤ 31 := he.1
  refine lpc.rel [0, 4, 5, 6, 32, 33, 34] (fun m ρ h' => ∃ k, m = e.map.length - k ∧ k ≤ e.map.length ∧ upd H4 c6 ⟨outC (foldR vals (e.map.take k) regs) e.pc e.done e.why n, 0⟩ = h' ∧
    ρ = [(0, .ptr pf 0), (4, .ptr c4 0), (5, .cp e.cells 0), (6, .ptr c6 0), (32, vls e.map), (33, .int .i64 (e.map.length : Int)), (34, .int .i64 (k : Int))]) ⟨_, 0, rfl, by omega, rfl, rfl⟩ ?_
  rintro m _ _ ⟨k, rfl, hk, rfl, rfl⟩
  have hlen2 : (foldR vals (e.map.take k) regs).length = 32 := by rw [foldR_len, hlen]
  obtain ⟨R, hR⟩ : ∃ R, foldR vals (e.map.take k) regs = R := ⟨_, rfl⟩
  rw [hR] at hlen2 ⊢
  have q6 : (upd H4 c6 ⟨outC R e.pc e.done e.why n, 0⟩) pf = some ⟨fcells b regs l.p vv, 0⟩ := by rw [upd_ne (Ne.symm n6), p4]
  have r6 := upd_same H4 c6 ⟨outC R e.pc e.done e.why n, 0⟩
  have s6 : ∀ c, H c ≠ none → (upd H4 c6 ⟨outC R e.pc e.done e.why n, 0⟩) c = H c := by
    intro c hc
    have d4 : c ≠ c4 := fun e => by rw [e, hc4] at hc; exact hc rfl
    have d6 : c ≠ c6 := fun e => by rw [s4 c6 n64, ← e] at hc6; exact hc hc6
    rw [upd_ne d6, s4 c d4]
  have u6 : ∀ X, upd (upd H4 c6 ⟨outC R e.pc e.done e.why n, 0⟩) c6 X = upd H4 c6 X := fun X => upd_upd _ _ _ _
  have y4 : (upd H4 c6 ⟨outC R e.pc e.done e.why n, 0⟩) c4 = some ⟨Z, 0⟩ := by rw [upd_ne (Ne.symm n64), z4]
  generalize upd H4 c6 ⟨outC R e.pc e.done e.why n, 0⟩ = H6 at q6 r6 s6 u6 y4 ⊢
  simp only [push_cast, simprocAttr]
  refine ⟨fun hk2 => ?_, fun hk2 => ?_⟩
  · obtain ⟨⟨v1, v2⟩, w1, w2⟩ := hmap k hk2
    obtain ⟨c, pre, cap, sp, rfl, hc, hcp, hcl⟩ := hf.at (i := (e.map.getD k IVl.zero).val.toNat) (by omega)
    have hc6' := (s6 c (by rw [hc]; simp)).trans hc
    have e2 := row_get pre vals (e.map.getD k IVl.zero).val.toNat (by omega)
    have hT := foldR_take vals e.map regs k hk2
    rw [hR] at hT
    generalize e.map.getD k IVl.zero = v at *
    refine ⟨hk2, hk2, fun c8 hc8 => ?_⟩
    rw [era_none hc8]
    simp (disch := omega) only [push_cast, simprocAttr, wrap_i64, toNat_ofInt64, Nat.min_eq_left, Int.toNat_of_nonneg, q6, e34, hc6', e2]
    refine ⟨⟨v1, v2⟩, ⟨w1, by omega⟩, ?_⟩
    have d4 : c ≠ c4 := fun e => by rw [e, hc4] at hc; cases hc
    have d6 : c ≠ c6 := fun e => by rw [s4 c6 n64, ← e] at hc6; rw [hc6] at hc; cases hc
    have g1 : ∀ X, upd H4 c6 X pf = some ⟨fcells b regs l.p (.sl c pre.length vals.length cap), 0⟩ := fun X => by rw [upd_ne (Ne.symm n6), p4]
    have g2 : ∀ X, upd H4 c6 X c = some ⟨pre ++ wds vals, sp⟩ := fun X => by rw [upd_ne d6, s4 c d4, hc]
    have os := oc_set (pc := e.pc) (done := e.done) (why := e.why) (exit := n) hlen2 v.reg.toNat (by omega) (vals.getD v.val.toNat 0#32)
    have ol := oc_len (pc := e.pc) (done := e.done) (why := e.why) (exit := n) hlen2
    have hb : v.reg.toNat + 1 ≤ 36 := by omega
    simp (disch := omega) only [push_cast, simprocAttr, wrap_i64, toNat_ofInt64, Nat.min_eq_left, Int.toNat_of_nonneg, r6, os, ol, u6, g1, g2, e34, e2, hb]
    exact ⟨_, _, by omega, .refl _, k + 1, rfl, by omega, by rw [hT]; rfl, rfl⟩
  · obtain rfl : k = e.map.length := by omega
    rw [List.take_of_length_le (Nat.le_refl _)] at hR
    have hLR : leaveR e regs vals = R := hR
    rw [hLR]
    have g1 : ∀ X, upd H4 c6 X pf = some ⟨fcells b regs l.p vv, 0⟩ := fun X => by rw [upd_ne (Ne.symm n6), p4]
    have g4 : ∀ X, upd H4 c6 X c4 = some ⟨Z, 0⟩ := fun X => by rw [upd_ne (Ne.symm n64), z4]
    have g6 : ∀ X, upd H4 c6 X c6 = some X := fun X => upd_same _ _ _
    by_cases ht : e.to = -1
    · have hLP : leaveP e vals = e.pc := by rw [leaveP, if_pos ht]
      rw [hLP]
      simp only [push_cast, simprocAttr, ht, r6, y4, oc_all hlen2, oc_len hlen2, hZ]
      exact hsub _ hc4 _ s6 _
    · have hLP : leaveP e vals = lv vals e.to := by rw [leaveP, if_neg ht]
      rw [hLP]
      have ht' : (e.to = -1) = False := by simp [ht]
      obtain ⟨t1, t2⟩ := he.2.resolve_left ht
      obtain ⟨c, pre, cap, sp, rfl, hc, hcp, hcl⟩ := hf.at (i := e.to.toNat) (by omega)
      have hc6' := (s6 c (by rw [hc]; simp)).trans hc
      have e2 := row_get pre vals e.to.toNat (by omega)
      simp only [push_cast, simprocAttr, ht', r6, y4, q6, e34, hc6', e2]
      refine ⟨⟨t1, t2⟩, by rw [oc_len hlen2]; omega, ?_⟩
      have op := oc_pc (pc := e.pc) (done := e.done) (why := e.why) (exit := n) hlen2 (vals.getD e.to.toNat 0#32)
      simp only [push_cast, simprocAttr, op, u6, g4, oc_all hlen2, oc_len hlen2, hZ]
      refine ⟨rfl, hsub _ hc4 _ (fun d hd => ?_) _⟩
      have d4 : d ≠ c4 := fun e => by rw [e, hc4] at hd; exact hd rfl
      have d6 : d ≠ c6 := fun e => by rw [s4 c6 n64, ← e] at hc6; exact hd hc6
      rw [upd_ne d6, s4 d d4]
end
end Go.Ab
end
section
/- A block, done. -/
set_option linter.unusedSimpArgs false
set_option linter.unusedVariables false
set_option maxRecDepth 10000
namespace Go.Ab
open Go.Proofs
variable {G : Glo} {h : Heap}
/-- The operations from one on, done: the exit that is taken (none: the last one), the values, and the memory. -/
def runN (regs : List (BitVec 32)) : List IOp → List (BitVec 32) → IRam → Option Int × List (BitVec 32) × IRam
  | [], vals, M => (none, vals, M)
  | o :: r, vals, M =>
    let s := stepN regs o vals M
    if s.2.1 = -1 then runN regs r (vals ++ [s.1]) s.2.2 else (some s.2.1, vals ++ [s.1], s.2.2)
def IBk.exitOf (b : IBk) (regs : List (BitVec 32)) (M : IRam) : Int := (runN regs b.ops [] M).1.getD b.last
/-- A block's end. -/
def IBk.outOf (b : IBk) (regs : List (BitVec 32)) (M : IRam) : List AV :=
  let n := b.exitOf regs M
  let e := b.ex n.toNat
  let vals := (runN regs b.ops [] M).2.1
  outC (leaveR e regs vals) (leaveP e vals) e.done e.why n
def IBk.ramOf (b : IBk) (regs : List (BitVec 32)) (M : IRam) : IRam := (runN regs b.ops [] M).2.2
theorem val_ok {b : IBk} {n ahead : Int} (hv : b.val n ahead = true) : 0 ≤ n ∧ n < ahead ∧ n < b.ops.length := by
  simp only [IBk.val, Bool.and_eq_true, decide_eq_true_eq] at hv
  omega
theorem exit_ok {b : IBk} {n ahead : Int} (hv : b.exit n ahead = true) : (0 ≤ n ∧ n < b.exits.length) ∧ ((b.ex n.toNat).to = -1 ∨ b.val (b.ex n.toNat).to ahead = true) ∧ ∀ i, i < (b.ex n.toNat).map.length → b.val ((b.ex n.toNat).vl i).val ahead = true := by
  simp only [IBk.exit, Bool.and_eq_true, Bool.or_eq_true, decide_eq_true_eq] at hv
  exact ⟨hv.1.1, hv.1.2, fun i hi => allN_get hv.2 i hi⟩
theorem right_ops {b : IBk} (hr : b.right = true) (k : Nat) (hk : k < b.ops.length) : b.opR k = true := by
  simp only [IBk.right, Bool.and_eq_true] at hr
  exact allN_get hr.1.1.1.1 k hk
theorem right_ex {b : IBk} (hr : b.right = true) (k : Nat) (hk : k < b.exits.length) : b.leaves k = true := by
  simp only [IBk.right, Bool.and_eq_true] at hr
  exact allN_get hr.1.1.1.2 k hk
theorem leaves_ok {b : IBk} {k : Nat} (hl : b.leaves k = true) (i : Nat) (hi : i < (b.ex k).map.length) : 1 ≤ ((b.ex k).vl i).reg ∧ ((b.ex k).vl i).reg ≤ 31 := by
  simp only [IBk.leaves, Bool.and_eq_true, decide_eq_true_eq] at hl
  have := allN_get hl.2 i hi
  simp only [Bool.and_eq_true, decide_eq_true_eq] at this
  exact ⟨this.1.1, this.1.2⟩
/-- An exit that an operation of a right block names may be taken behind it. -/
theorem okEx_of {b : IBk} (hr : b.right = true) {n ahead : Int} {m : Nat} (hx : b.exit n ahead = true) (hm : ahead ≤ m) : 0 ≤ n ∧ n < b.exits.length ∧ okEx (b.ex n.toNat) m := by
  obtain ⟨⟨h1, h2⟩, h3, h4⟩ := exit_ok hx
  refine ⟨h1, h2, fun i hi => ?_, ?_⟩
  · have hv := val_ok (h4 i hi)
    have hl := leaves_ok (right_ex hr n.toNat (by omega)) i hi
    exact ⟨⟨hv.1, by omega⟩, by omega, hl.2⟩
  · rcases h3 with h3 | h3
    · exact .inl h3
    · have hv := val_ok h3
      exact .inr ⟨hv.1, by omega⟩
theorem op_ok {b : IBk} (hr : b.right = true) (k : Nat) (hk : k < b.ops.length) : okOp (b.op k) k ∧ ((b.op k).code = 4 ∨ (b.op k).code = 5 ∨ (b.op k).code = 6 → b.exit (b.op k).x k = true) ∧ ((b.op k).code = 5 → b.exit (b.op k).y k = true) := by
  have h := right_ops hr k hk
  rw [opR_eq b k (o := b.op k) rfl] at h
  generalize b.op k = o at h ⊢
  unfold okOp
  split at h
  · rename_i hc; simp only [Bool.and_eq_true, decide_eq_true_eq] at h; simp [hc]; omega
  · split at h
    · rename_i _ hc; simp [hc]
    · split at h
      · rename_i _ _ hc
        simp only [Bool.and_eq_true, decide_eq_true_eq] at h
        have v1 := val_ok h.1.2
        have v2 := val_ok h.2
        simp [hc, h.1.1.1.1]; omega
      · split at h
        · rename_i _ _ _ hc
          simp only [Bool.and_eq_true, decide_eq_true_eq] at h
          have v1 := val_ok h.1.2
          simp [hc, h.2]; omega
        · split at h
          · rename_i _ _ _ _ hc
            simp only [Bool.and_eq_true, decide_eq_true_eq] at h
            have v1 := val_ok h.1.1.1.2
            have v2 := val_ok h.1.1.2
            simp [hc, h.1.2, h.2]; omega
          · split at h
            · rename_i _ _ _ _ _ hc
              simp only [Bool.and_eq_true, decide_eq_true_eq] at h
              have v1 := val_ok h.1.1.2
              have v2 := val_ok h.1.2
              simp [hc, h.2]; omega
            · cases h
/-- The exit that an operation of a right block takes. -/
theorem step_exit {b : IBk} (hr : b.right = true) (k : Nat) (hk : k < b.ops.length) (regs vals : List (BitVec 32)) (M : IRam) (hx : (stepN regs (b.op k) vals M).2.1 ≠ -1) : b.exit (stepN regs (b.op k) vals M).2.1 k = true := by
  obtain ⟨_, h1, h2⟩ := op_ok hr k hk
  generalize b.op k = o at h1 h2 hx ⊢
  unfold stepN at hx ⊢
  split at hx
  · exact absurd rfl hx
  · rename_i c1
    rw [if_neg c1]
    split at hx
    · rename_i c4
      rw [if_pos c4]
      split at hx
      · exact absurd rfl hx
      · rename_i hE; rw [if_neg hE]; exact h1 (.inl c4)
    · rename_i c4
      rw [if_neg c4]
      split at hx
      · rename_i c5
        rw [if_pos c5]
        unfold storeX at hx ⊢
        split at hx
        · rename_i hE
          rw [if_pos hE]
          simp only at hx ⊢
          split at hx
          · rename_i hh; rw [if_pos hh]; exact h2 c5
          · exact absurd rfl hx
        · rename_i hE; rw [if_neg hE]; exact h1 (.inr (.inl c5))
      · rename_i c5
        rw [if_neg c5]
        split at hx
        · rename_i c6
          rw [if_pos c6]
          simp only at hx ⊢
          split at hx
          · exact absurd rfl hx
          · rename_i ht; rw [if_neg ht]; exact h1 (.inr (.inr c6))
        · rename_i c6
          split at hx <;> exact absurd rfl hx
def DoTo (h : Heap) (l : Pl) (M : IRam) (v : AV) (r : AV) (h' : Heap) : Prop := r = v ∧ RamAt h' l M ∧ ∀ c, ¬ l.has c → h' c = h c
theorem ram_cut {l : Pl} {M : IRam} {H2 h : Heap} (hr2 : RamAt H2 l M) (hold : ∀ c, h c ≠ none → ¬ l.has c → H2 c = h c) : ∃ h1, Sub h1 H2 ∧ RamAt h1 l M ∧ ∀ c, ¬ l.has c → h1 c = h c := by
  classical
  refine ⟨fun c => if l.has c then H2 c else h c, fun c x hx => ?_, ⟨hr2.ok, hr2.wf, ?_, ?_, ?_, ?_⟩, fun c hc => if_neg hc⟩
  · simp only at hx
    split at hx
    · exact hx
    · rename_i hc; rw [hold c (by rw [hx]; simp) hc]; exact hx
  · show (if _ then _ else _) = _
    rw [if_pos (.inl rfl)]; exact hr2.hp
  · show (if _ then _ else _) = _
    rw [if_pos (.inr (.inl rfl))]; exact hr2.hb
  · show (if _ then _ else _) = _
    rw [if_pos (.inr (.inr (.inl rfl)))]; exact hr2.hw
  · show (if _ then _ else _) = _
    rw [if_pos (.inr (.inr (.inr rfl)))]; exact hr2.hg
theorem fc_bld {b : IBk} {regs : List (BitVec 32)} (hl : regs.length = 32) (p : Nat) : (splice [bkP b, .int .u32 0, .int .u32 0, .int .u32 0, .int .u32 0, .int .u32 0, .int .u32 0, .int .u32 0, .int .u32 0, .int .u32 0, .int .u32 0, .int .u32 0, .int .u32 0, .int .u32 0, .int .u32 0, .int .u32 0, .int .u32 0, .int .u32 0, .int .u32 0, .int .u32 0, .int .u32 0, .int .u32 0, .int .u32 0, .int .u32 0, .int .u32 0, .int .u32 0, .int .u32 0, .int .u32 0, .int .u32 0, .int .u32 0, .int .u32 0, .int .u32 0, .int .u32 0, .nilp, .nils] 1 (wds regs)).set 33 (.ptr p 0) = fcells b regs p .nils := by
  have hw : (wds regs).length = 32 := by simp [wds, hl]
  rw [splice_ne (by omega), hw]
  simp only [List.take_succ_cons, List.take_zero, List.drop_succ_cons, List.drop_zero, Nat.reduceAdd]
  rw [List.set_append_right _ _ (by simp [hw])]
  simp [hw, fcells]
theorem fc_bl {b : IBk} {regs : List (BitVec 32)} (hl : regs.length = 32) : (splice [bkP b, .int .u32 0, .int .u32 0, .int .u32 0, .int .u32 0, .int .u32 0, .int .u32 0, .int .u32 0, .int .u32 0, .int .u32 0, .int .u32 0, .int .u32 0, .int .u32 0, .int .u32 0, .int .u32 0, .int .u32 0, .int .u32 0, .int .u32 0, .int .u32 0, .int .u32 0, .int .u32 0, .int .u32 0, .int .u32 0, .int .u32 0, .int .u32 0, .int .u32 0, .int .u32 0, .int .u32 0, .int .u32 0, .int .u32 0, .int .u32 0, .int .u32 0, .int .u32 0, .nilp, .nils] 1 (wds regs)).length = 35 := by
  rw [splice_length (by simp [wds, hl])]; rfl
section
variable {l : Pl} {M : IRam} {b : IBk} {regs : List (BitVec 32)}
theorem Do_right (hr : RamAt h l M) (hw : b.wf) (hc : b.check = 0) (hlen : regs.length = 32) (hm : ∀ e ∈ b.exits, e.map.length ≤ 1000) :
    Spec Tryz.prog G 20 [bkP b, .agg (wds regs), .ptr l.p 0] h (DoTo h l (b.ramOf regs M) (.tup [.agg (b.outOf regs M), .int .i64 0])) := by
  have hC := Check_spec (G := G) (h := h) b hw
  refine Spec.drop ?_
  have hwl : (wds regs).length = 32 := by simp [wds, hlen]
  have hpa : partOf (wds regs) 0 (some 32) = some (.agg (wds regs)) := partOf_all hwl
  refine Spec.walk C20ok rfl ?_
  simp only [push_cast, simprocAttr]
  intro c6 hc6
  obtain ⟨H6, hH6⟩ : ∃ H6, upd h c6 ⟨[.int .u32 0, .int .u32 0, .int .u32 0, .int .u32 0, .int .u32 0, .int .u32 0, .int .u32 0, .int .u32 0, .int .u32 0, .int .u32 0, .int .u32 0, .int .u32 0, .int .u32 0, .int .u32 0, .int .u32 0, .int .u32 0, .int .u32 0, .int .u32 0, .int .u32 0, .int .u32 0, .int .u32 0, .int .u32 0, .int .u32 0, .int .u32 0, .int .u32 0, .int .u32 0, .int .u32 0, .int .u32 0, .int .u32 0, .int .u32 0, .int .u32 0, .int .u32 0, .int .u32 0, .int .i64 0, .int .i64 0, .int .i64 0], 0⟩ = H6 := ⟨_, rfl⟩
  have n6 := hr.not hc6
  have r6 : RamAt H6 l M := hH6 ▸ hr.upd n6
  obtain ⟨Z, hZ, z6⟩ : ∃ Z : List AV, Z.length = 36 ∧ H6 c6 = some ⟨Z, 0⟩ := ⟨_, rfl, by rw [← hH6, upd_same]⟩
  have s6 : ∀ c, c ≠ c6 → H6 c = h c := fun c hc => by rw [← hH6, upd_ne hc]
  rw [hH6]
  clear hH6
  refine (Check_spec (G := G) (h := H6) b hw).to ?_
  rw [hc]
  have hb1 := fc_bld (b := b) hlen l.p
  have hb2 := fc_bl (b := b) hlen
  simp only [push_cast, simprocAttr, hpa, hwl, hb1, hb2, hlen]
  intro pf hpf
  have nl := r6.not hpf
  have n6f : c6 ≠ pf := fun e => by rw [← e, z6] at hpf; cases hpf
  have hF0 : FAt (upd H6 pf ⟨fcells b regs l.p .nils, 0⟩) H6 l M pf b regs .nils [] :=
    ⟨r6.upd nl, nl, hpf, upd_same _ _ _, .inl ⟨rfl, rfl⟩, fun c hc _ => upd_ne fun e => hc (e ▸ hpf), hlen⟩
  have hright : b.right = true := by
    unfold IBk.check at hc
    split at hc
    · cases hc
    · split at hc
      · assumption
      · cases hc
  have hol : b.ops.length ≤ 512 := by
    unfold IBk.check IBk.long at hc
    split at hc
    · cases hc
    · rename_i hl; simp only [Bool.or_eq_true, decide_eq_true_eq] at hl; omega
  have hmx : ∀ n, (b.ex n).map.length ≤ 1000 := fun n => getD_map hm
  have fin : ∀ (H2 : Heap) (M2 : IRam) (vv : AV) (vals : List (BitVec 32)) (n : Int), FAt H2 H6 l M2 pf b regs vv vals → b.ramOf regs M = M2 → b.outOf regs M = outC (leaveR (b.ex n.toNat) regs vals) (leaveP (b.ex n.toNat) vals) (b.ex n.toNat).done (b.ex n.toNat).why n →
      H2 c6 = some ⟨Z, 0⟩ ∧ (outC (leaveR (b.ex n.toNat) regs vals) (leaveP (b.ex n.toNat) vals) (b.ex n.toNat).done (b.ex n.toNat).why n).length = 36 ∧ splice Z 0 (outC (leaveR (b.ex n.toNat) regs vals) (leaveP (b.ex n.toNat) vals) (b.ex n.toNat).done (b.ex n.toNat).why n) = outC (leaveR (b.ex n.toNat) regs vals) (leaveP (b.ex n.toNat) vals) (b.ex n.toNat).done (b.ex n.toNat).why n ∧
      partOf (outC (leaveR (b.ex n.toNat) regs vals) (leaveP (b.ex n.toNat) vals) (b.ex n.toNat).done (b.ex n.toNat).why n) 0 (some 36) = some (.agg (b.outOf regs M)) ∧
      ∀ X, ∃ h1, Sub h1 (upd H2 c6 X) ∧ DoTo h l (b.ramOf regs M) (.tup [.agg (b.outOf regs M), .int .i64 0]) (.tup [.agg (b.outOf regs M), .int .i64 0]) h1 := by
    intro H2 M2 vv vals n hF hM hO
    have hl2 : (leaveR (b.ex n.toNat) regs vals).length = 32 := by rw [leaveR, foldR_len, hlen]
    have hc6' : H2 c6 = some ⟨Z, 0⟩ := (hF.old c6 (by rw [z6]; simp) n6).trans z6
    refine ⟨hc6', oc_len hl2, oc_put hl2 Z hZ, by rw [oc_all hl2, hO], fun X => ?_⟩
    obtain ⟨h1, k1, k2, k3⟩ := ram_cut (h := h) (hF.ram.upd (X := X) n6) (fun c hcn hl => by
      have d6 : c ≠ c6 := fun e => hcn (e ▸ hc6)
      rw [upd_ne d6, hF.old c (by rw [s6 c d6]; exact hcn) hl, s6 c d6])
    exact ⟨h1, k1, rfl, hM ▸ k2, k3⟩
  refine lpc.rel [0, 6, 9, 30, 31, 32] (fun m ρ h' => ∃ k vv vals M1, m = b.ops.length - k ∧ k ≤ b.ops.length ∧ FAt h' H6 l M1 pf b regs vv vals ∧ vals.length = k ∧ runN regs b.ops [] M = runN regs (b.ops.drop k) vals M1 ∧
    ρ = [(0, bkP b), (6, .ptr c6 0), (9, .ptr pf 0), (30, ops b.ops), (31, .int .i64 (b.ops.length : Int)), (32, .int .i64 (k : Int))]) ⟨_, 0, .nils, [], M, rfl, by omega, hF0, rfl, rfl, rfl⟩ ?_
  rintro m _ H1 ⟨k, vv, vals, M1, rfl, hk, hF, hvl, hrun, rfl⟩
  clear hb1 hb2
  simp only [push_cast, simprocAttr]
  refine ⟨fun hk2 => ?_, fun hk2 => ?_⟩
  · have hop : b.ops.getD k IOp.zero = b.op k := rfl
    refine ⟨hk2, hk2, fun c11 hc11 => ?_⟩
    rw [era_none hc11, hop]
    obtain ⟨ok1, _, _⟩ := op_ok hright k hk2
    refine (op_spec' hF (b.op k) (by rw [hvl]; exact ok1) (by omega)).mono ?_
    rintro _ H2 ⟨rfl, vv2, hF2⟩
    have hdr : b.ops.drop k = b.op k :: b.ops.drop (k + 1) := by
      rw [List.drop_eq_getElem_cons hk2]; congr 1; simp [IBk.op, hk2]
    rw [hdr] at hrun
    have hsx := step_exit hright k hk2 regs vals M1
    simp only [runN] at hrun
    generalize stepN regs (b.op k) vals M1 = S at hF2 hrun hsx ⊢
    obtain ⟨w, x, M2⟩ := S
    by_cases hx : x = -1
    · subst hx
      rw [if_pos rfl] at hrun
      simp (disch := omega) only [push_cast, simprocAttr, wrap_i64, toNat_ofInt64, Nat.min_eq_left, Int.toNat_of_nonneg]
      exact ⟨_, _, by omega, .refl _, k + 1, vv2, vals ++ [w], M2, rfl, by omega, hF2, by simp [hvl], hrun, rfl⟩
    · rw [if_neg hx] at hrun
      have hx' : (x != -1) = true := by simp [hx]
      obtain ⟨x1, x2, x3⟩ := okEx_of hright (hsx hx) (m := (vals ++ [w]).length) (by simp; omega)
      have hM : b.ramOf regs M = M2 := by rw [IBk.ramOf, hrun]
      have hO : b.outOf regs M = outC (leaveR (b.ex x.toNat) regs (vals ++ [w])) (leaveP (b.ex x.toNat) (vals ++ [w])) (b.ex x.toNat).done (b.ex x.toNat).why x := by
        simp only [IBk.outOf, IBk.exitOf, hrun, Option.getD_some]
      obtain ⟨f1, f2, f3, f4, f5⟩ := fin H2 M2 vv2 (vals ++ [w]) x hF2 hM hO
      simp only [push_cast, simprocAttr, hx]
      refine (leave_spec hF2 x x1 x2 (hmx _) x3).to ?_
      simp only [push_cast, simprocAttr, f1, f2, f3, f4, hZ]
      exact f5 _
  · obtain rfl : k = b.ops.length := by omega
    rw [List.drop_of_length_le (Nat.le_refl _), runN] at hrun
    have hM : b.ramOf regs M = M1 := by rw [IBk.ramOf, hrun]
    have hO : b.outOf regs M = outC (leaveR (b.ex b.last.toNat) regs vals) (leaveP (b.ex b.last.toNat) vals) (b.ex b.last.toNat).done (b.ex b.last.toNat).why b.last := by
      simp only [IBk.outOf, IBk.exitOf, hrun, Option.getD_none]
    have hlast : b.exit b.last b.ops.length = true := by
      simp only [IBk.right, Bool.and_eq_true] at hright
      exact hright.2
    obtain ⟨x1, x2, x3⟩ := okEx_of hright hlast (m := vals.length) (by omega)
    obtain ⟨f1, f2, f3, f4, f5⟩ := fin H1 M1 vv vals b.last hF hM hO
    refine (leave_spec hF b.last x1 x2 (hmx _) x3).to ?_
    simp only [push_cast, simprocAttr, f1, f2, f3, f4, hZ]
    exact f5 _
/-- A block that is not right; no memory. -/
theorem Do_wrong (v : AV) (hw : b.wf) (hc : b.check ≠ 0) (hlen : regs.length = 32) : Spec Tryz.prog G 20 [bkP b, .agg (wds regs), v] h (Is (.tup [.agg (outC (List.replicate 32 0) 0#32 0 0 0), .int .i64 b.check]) h) := by
  have hc' : (b.check != 0) = true := by simp [hc]
  refine Spec.is C20ok rfl ?_
  simp only [push_cast, simprocAttr]
  intro c6 hc6
  refine (Check_spec (G := G) b hw).to ?_
  simp only [push_cast, simprocAttr, hc']
  exact ⟨rfl, (Sub.refl h).alloc hc6⟩
theorem Do_nil (hw : b.wf) (hc : b.check = 0) (hlen : regs.length = 32) : Spec Tryz.prog G 20 [bkP b, .agg (wds regs), .nilp] h (Is (.tup [.agg (outC (List.replicate 32 0) 0#32 0 0 0), .int .i64 2]) h) := by
  refine Spec.is C20ok rfl ?_
  simp only [push_cast, simprocAttr]
  intro c6 hc6
  refine (Check_spec (G := G) b hw).to ?_
  rw [hc]
  simp only [push_cast, simprocAttr]
  exact ⟨rfl, (Sub.refl h).alloc hc6⟩
end
end Go.Ab
end
section
/- The laws of eval: the example, and the values of operations. -/
set_option linter.unusedSimpArgs false
set_option linter.unusedVariables false
set_option maxRecDepth 10000
namespace Go.Ab
open Go.Proofs
variable {G : Glo} {h : Heap}
theorem Spec.preN {P : Program} {f : FuncId} {a a' : AV} {r : List AV} {h h1 : Heap} {Q : AV → Heap → Prop} (hl : Le a h a' h1) (hs : Spec P G f (a' :: r) h1 Q) : Spec P G f (a :: r) h Q := by
  intro w vs k1 k2 k3
  match vs, k3 with
  | v :: s, k3 =>
    obtain ⟨x, y, z⟩ := hl w v k1 (k3.2 0 a v rfl rfl)
    have hk : Keeps w h.dom w h1.dom := ⟨Nat.le_refl _, fun b _ hn => ⟨fun hd => hd (z b (Classical.not_not.1 hn)), rfl⟩, fun _ h => h⟩
    have hr : RepL w h.dom r s := ⟨by have := k3.1; simpa using this, fun i a b h1 h2 => k3.2 (i + 1) a b (by simpa using h1) (by simpa using h2)⟩
    refine (hs w (v :: s) x (k2.keep hk) (.cons y (hr.keep hk))).mono ?_
    rintro e w' ⟨v', r, h', he, q, m1, m2, m3⟩
    exact ⟨v', r, h', he, q, m1, m2, ⟨m3.size, fun b hb hn => m3.blk b hb (z b hn), m3.cel, m3.os, m3.tape, m3.out⟩⟩
  | [], k3 => have := k3.1; simp at this
def W24 : IBk := ⟨[0], [⟨1, 0, 0, 1, 0, 0⟩, ⟨2, 0, 0, 4, 0, 0⟩, ⟨3, 0, 1, 28, 0, 0⟩], [⟨1, 4, -1, 4, [⟨1, 2⟩]⟩], 0⟩
theorem W24_check : W24.check = 0 := by decide
theorem W24_wf : W24.wf := by
  refine ⟨by decide, by decide, by decide, ?_, by decide, by decide, by decide, ?_⟩ <;> decide
def G24 : List (BitVec 32) := [0, 5, 0, 0, 0, 0, 0, 0, 0, 0, 0, 0, 0, 0, 0, 0, 0, 0, 0, 0, 0, 0, 0, 0, 0, 0, 0, 0, 0, 0, 0, 0]
def O24 : List (BitVec 32) := [0, 9, 0, 0, 0, 0, 0, 0, 0, 0, 0, 0, 0, 0, 0, 0, 0, 0, 0, 0, 0, 0, 0, 0, 0, 0, 0, 0, 0, 0, 0, 0]
theorem W24_out (M : IRam) : W24.outOf G24 M = outC O24 4 1 4 0 := by rfl
end Go.Ab
end
section
/- The laws of eval: a world, and whether a block may be done in it. -/
set_option linter.unusedSimpArgs false
set_option linter.unusedVariables false
set_option maxRecDepth 10000
namespace Go.Ab
open Go.Proofs
variable {G : Glo} {h : Heap}
structure IWd where
  regs : List (BitVec 32)
  size : Int
  b : List (BitVec 8)
  w : BitVec 16
def IWd.cells (w : IWd) : List AV := wds w.regs ++ [.int .i64 w.size, byt w.b, .int .u16 w.w.toNat]
theorem wd_at {w : IWd} (hl : w.regs.length = 32) : w.cells.length = 35 ∧ w.cells[32]? = some (.int .i64 w.size) ∧ w.cells[33]? = some (byt w.b) ∧ w.cells[34]? = some (.int .u16 w.w.toNat) ∧ w.cells[0]? = some (.int .u32 (w.regs.getD 0 0#32).toNat) := by
  have hw : (wds w.regs).length = 32 := by simp [wds, hl]
  refine ⟨by simp [IWd.cells, hw], ?_, ?_, ?_, ?_⟩
  · rw [IWd.cells, List.getElem?_append_right (by omega), hw]; rfl
  · rw [IWd.cells, List.getElem?_append_right (by omega), hw]; rfl
  · rw [IWd.cells, List.getElem?_append_right (by omega), hw]; rfl
  · rw [IWd.cells, List.getElem?_append_left (by omega), wds_get, if_pos (by omega)]
def lightW (b : IBk) (w : IWd) : Bool := !(decide (b.pcs.length > 100) || decide (b.ops.length > 600) || decide (b.exits.length > 200) || !rightN w.size || decide (w.size > 1024) || decide ((w.b.length : Int) > w.size) || (w.regs.getD 0 0#32 != 0#32))
def light24 (b : IBk) (w : IWd) : Bool := lightW b w && allN b.exits.length fun i => decide ((b.exits.getD i IEx.zero).map.length ≤ 100)
theorem lightW_iff (b : IBk) (w : IWd) : lightW b w = true ↔ b.pcs.length ≤ 100 ∧ b.ops.length ≤ 600 ∧ b.exits.length ≤ 200 ∧ rightN w.size = true ∧ w.size ≤ 1024 ∧ (w.b.length : Int) ≤ w.size ∧ w.regs.getD 0 0#32 = 0#32 := by
  simp only [lightW, Bool.not_eq_true', Bool.or_eq_false_iff, decide_eq_false_iff_not, bne_eq_false_iff_eq, Bool.not_eq_false']
  constructor
  · rintro ⟨⟨⟨⟨⟨⟨h1, h2⟩, h3⟩, h4⟩, h5⟩, h6⟩, h7⟩
    exact ⟨by omega, by omega, by omega, h4, by omega, by omega, h7⟩
  · rintro ⟨h1, h2, h3, h4, h5, h6, h7⟩
    exact ⟨⟨⟨⟨⟨⟨by omega, by omega⟩, by omega⟩, h4⟩, by omega⟩, by omega⟩, h7⟩
theorem bv0 (x : BitVec 32) : ((x.toNat : Int) = 0) ↔ x = 0#32 := by
  constructor
  · intro h
    apply BitVec.eq_of_toNat_eq
    simp; omega
  · rintro rfl; rfl
theorem rRight10_spec (n : Int) : Spec Tryz.prog G 58 [.int .i64 n] h (Is (.bool (rightN n)) h) := by
  have hN : rightN n = (decide (64 ≤ n) && decide (n ≤ 65536) && decide (n % 64 = 0)) := rfl
  generalize rightN n = N at hN ⊢
  refine Spec.is C58ok rfl ?_
  simp only [push_cast, simprocAttr]
  rw [hN]
  by_cases h64 : 64 ≤ n
  · rw [Int.tmod_eq_emod_of_nonneg (by omega)]
    (first | rfl | (congr 1; done) | (congr 1; rw [Bool.eq_iff_iff]; simp only [Bool.and_eq_true, Bool.or_eq_true, Bool.not_eq_true', decide_eq_true_eq, decide_eq_false_iff_not, Bool.false_eq_true, true_and, and_true]; first | omega | grind))
  · have : ¬ n ≥ 64 := h64
    simp [h64, this]
theorem light24_facts {b : IBk} {w : IWd} (h : light24 b w = true) : b.wf ∧ b.ops.length ≤ 600 ∧ b.exits.length ≤ 200 ∧ b.pcs.length ≤ 100 ∧ (∀ e ∈ b.exits, e.map.length ≤ 100) ∧ ∃ n : Nat, w.size = n ∧ rightN n = true ∧ n ≤ 1024 ∧ w.b.length ≤ n ∧ w.regs.getD 0 0#32 = 0#32 := by
  simp only [light24, Bool.and_eq_true] at h
  obtain ⟨h1, h2⟩ := h
  obtain ⟨e1, e2, e3, e4, e5, e6, e7⟩ := (lightW_iff b w).1 h1
  have hm : ∀ e ∈ b.exits, e.map.length ≤ 100 := by
    intro e he
    obtain ⟨i, hi, rfl⟩ := List.getElem_of_mem he
    have := allN_get h2 i hi
    simpa [hi] using this
  have e4' := e4
  simp only [rightN, Bool.and_eq_true, decide_eq_true_eq] at e4'
  obtain ⟨n, hn⟩ : ∃ n : Nat, w.size = n := ⟨w.size.toNat, by omega⟩
  refine ⟨⟨by omega, by omega, by omega, fun e he => by have := hm e he; omega, by omega, by omega, by omega, fun e he => by have := hm e he; omega⟩, e2, e3, e1, hm, n, hn, hn ▸ e4, by omega, by omega, e7⟩
end Go.Ab
end
section
/- The laws of eval: the program's memory of a world. -/
set_option linter.unusedSimpArgs false
set_option linter.unusedVariables false
set_option maxRecDepth 10000
namespace Go.Ab
open Go.Proofs
variable {G : Glo} {h : Heap}
@[push_cast] theorem abin_and_u16 (a b : Int) : abin .and (.int .u16 a) (.int .u16 b) = some (.int .u16 ((BitVec.ofInt 16 a &&& BitVec.ofInt 16 b).toNat : Int)) := by
  show (if IntKind.u16 = IntKind.u16 then some (AV.int .u16 (IntKind.u16.wrap ((BitVec.ofInt 16 a &&& BitVec.ofInt 16 b).toNat : Int))) else none) = _
  rw [if_pos rfl, wr_u16, ofInt_toNat, BitVec.setWidth_eq]
def wdW (w : BitVec 16) (n k : Nat) : List Bool := (List.range n).map fun i => decide (i < k) && w.getLsbD i
def wdB (w : IWd) (n : Nat) : List (BitVec 8) := w.b ++ List.replicate (n - w.b.length) 0
def wdM (w : IWd) (n k : Nat) : IRam := ⟨wdB w n, wdW w.w (n / 64) k, List.replicate (n / 64) 0⟩
theorem wdW_len (w : BitVec 16) (n k : Nat) : (wdW w n k).length = n := by simp [wdW]
theorem wdW_0 (w : BitVec 16) (n : Nat) : wdW w n 0 = List.replicate n false := by
  apply List.ext_getElem?
  intro i
  simp [wdW, List.getElem?_replicate]
  split <;> simp [*]
theorem wdW_S (w : BitVec 16) (n k : Nat) : wdW w n (k + 1) = if w.getLsbD k then (wdW w n k).set k true else wdW w n k := by
  apply List.ext_getElem?
  intro i
  by_cases hi : i < n
  · by_cases hb : w.getLsbD k = true
    · rw [if_pos hb, List.getElem?_set]
      by_cases e : k = i
      · subst e; simp [wdW, hi, hb]
      · rw [if_neg e]
        have : (i < k + 1) ↔ i < k := by omega
        simp [wdW, hi, this]
    · rw [if_neg hb]
      by_cases e : k = i
      · subst e; simp [wdW, hi, hb]
      · have : (i < k + 1) ↔ i < k := by omega
        simp [wdW, hi, this]
  · rw [List.getElem?_eq_none (by simp [wdW]; omega), List.getElem?_eq_none (by split <;> simp [wdW] <;> omega)]
theorem wd_fill {w : IWd} {n : Nat} (hn : rightN n = true) (hb : w.b.length ≤ n) : fillE (IRam.new n).b.length 2147483648#32 w.b.length = 0 ∧ (IRam.new n).fill 2147483648#32 w.b = wdM w n 0 := by
  simp only [rightN, Bool.and_eq_true, decide_eq_true_eq] at hn
  have hl : (IRam.new n).b.length = n := by simp [IRam.new]
  have ha : (2147483648#32).toNat = 2147483648 := rfl
  have hM : wdM w n 0 = ⟨wdB w n, List.replicate (n / 64) false, List.replicate (n / 64) 0⟩ := by rw [wdM, wdW_0]
  rw [hl, hM]
  by_cases h0 : w.b.length = 0
  · refine ⟨by rw [fillE, if_pos h0], ?_⟩
    rw [IRam.fill, if_neg (fun q => q.1 h0)]
    have : w.b = [] := List.length_eq_zero_iff.1 h0
    simp [IRam.new, wdB, this]
  · have hh : hasN n 2147483648#32 w.b.length = true := by simp only [hasN, Bool.and_eq_true, decide_eq_true_eq, ha]; omega
    refine ⟨by rw [fillE, if_neg h0, if_pos hh], ?_⟩
    rw [IRam.fill, hl, if_pos ⟨h0, hh⟩, ha]
    simp [IRam.put, IRam.new, wdB]
/-- A memory that a function makes. -/
def MemTo (h : Heap) (M : IRam) (r : AV) (h' : Heap) : Prop := ∃ l : Pl, r = .ptr l.p 0 ∧ RamAt h' l M ∧ (∀ c, l.has c → h c = none) ∧ ∀ c, ¬ l.has c → h' c = h c
theorem bit16 (w : BitVec 16) (k : Nat) : ((w >>> k &&& 1#16).toNat : Int) = (if w.getLsbD k then 1 else 0) := by
  have : w >>> k &&& 1#16 = if w.getLsbD k then 1#16 else 0#16 := by
    ext i hi
    simp
    by_cases e : i = 0
    · subst e; split <;> simp_all
    · split <;> simp [e] <;> intro h1 <;> omega
  rw [this]
  split <;> rfl
end Go.Ab
end
section
/- The document's memory: made anew, and bytes laid. -/
set_option linter.unusedSimpArgs false
set_option linter.unusedVariables false
set_option maxRecDepth 10000
namespace Go.Ab
open Go.Proofs
variable {G : Glo} {h : Heap}
/-- A part of a composite that is a row of one's own becomes data that stays. -/
theorem Le.aggf {g : Heap} {b n cap i : Nat} {cells : List AV} {L : List AV} {sp : Nat} (hi : L[i]? = some (.sl b 0 n cap)) (hb : g b = none) (h0 : n = 0 → cells = []) : Le (.agg L) (upd g b ⟨cells, sp⟩) (.agg (L.set i (.ro cells n))) g := by
  intro w v hw hr
  obtain ⟨cs, rfl, hl, h1, hr1⟩ := rep_agg hr
  have hsub : Sub g (upd g b ⟨cells, sp⟩) := (Sub.refl g).alloc hb
  obtain ⟨l1, _⟩ := hrep_less hw hsub
  have hk : Keeps w (upd g b ⟨cells, sp⟩).dom w g.dom := ⟨Nat.le_refl _, fun c _ hn => ⟨fun hd => hn fun e => hd (hsub.none e), rfl⟩, fun _ h => h⟩
  refine ⟨l1, .agg _ _ (by simpa using hl) h1 fun j u c e1 e2 => ?_, fun c hc => hsub.none hc⟩
  rw [List.getElem?_set] at e1
  split at e1
  · rename_i hij
    subst hij
    split at e1
    · cases e1
      exact (Le.freeze (pre := []) hb h0 w c hw (hr1 i _ c hi e2)).2.1
    · cases e1
  · exact (hr1 j u c e1 e2).keep hk
/-- Three rows of one's own. -/
def rowsH (h : Heap) (b w g : Nat) (M : IRam) : Heap := upd (upd (upd h b ⟨bys M.b, 0⟩) w ⟨bos M.w, 0⟩) g ⟨qws M.g, 0⟩
def RowsTo (h : Heap) (M : IRam) (r : AV) (h' : Heap) : Prop := ∃ b w g, (b ≠ w ∧ b ≠ g ∧ w ≠ g) ∧ (h b = none ∧ h w = none ∧ h g = none) ∧
  r = .agg [.sl b 0 M.b.length M.b.length, .sl w 0 M.w.length M.w.length, .sl g 0 M.g.length M.g.length] ∧ h' = rowsH h b w g M
end Go.Ab
end
section
/- The document's memory of a world. -/
set_option linter.unusedSimpArgs false
set_option linter.unusedVariables false
set_option maxRecDepth 10000
namespace Go.Ab
open Go.Proofs
variable {G : Glo} {h : Heap}
/-- A heap without a block. -/
def del (h : Heap) (b : Nat) : Heap := fun c => if c = b then none else h c
theorem del_at {h : Heap} {b c : Nat} : del h b c = if c = b then none else h c := rfl
theorem del_ne {h : Heap} {b c : Nat} (hc : c ≠ b) : del h b c = h c := if_neg hc
theorem upd_del {h : Heap} {b : Nat} {x : Blk} (hb : h b = some x) : h = upd (del h b) b x := by
  funext c
  simp only [upd_at, del_at]
  split
  · rename_i e; rw [e, hb]
  · rfl
theorem Le.own {h : Heap} {b n cap : Nat} {cells : List AV} {sp : Nat} (hb : h b = some ⟨cells, sp⟩) (h0 : n = 0 → cells = []) : Le (.sl b 0 n cap) h (.ro cells n) (del h b) := by
  have := Le.freeze (g := del h b) (b := b) (n := n) (cap := cap) (pre := []) (cells := cells) (sp := sp) (by simp [del_at]) h0
  rw [List.nil_append, ← upd_del hb] at this
  exact this
theorem Le.aggd {h : Heap} {b n cap i : Nat} {cells : List AV} {L : List AV} {sp : Nat} (hi : L[i]? = some (.sl b 0 n cap)) (hb : h b = some ⟨cells, sp⟩) (h0 : n = 0 → cells = []) : Le (.agg L) h (.agg (L.set i (.ro cells n))) (del h b) := by
  have := Le.aggf (g := del h b) (cells := cells) (sp := sp) hi (by simp [del_at]) h0
  rw [← upd_del hb] at this
  exact this
theorem Le.less {r : AV} {h g : Heap} (hs : Sub g h) : Le r h r g := by
  intro w v hw hr
  obtain ⟨l1, l2⟩ := hrep_less hw hs
  exact ⟨l1, hr.keep ⟨Nat.le_refl _, fun c _ hn => ⟨fun hd => hn fun e => hd (hs.none e), rfl⟩, fun _ h => h⟩, fun c hc => hs.none hc⟩
def IRam.cells (M : IRam) : List AV := [byt M.b, .ro (bos M.w) M.w.length, .ro (qws M.g) M.g.length]
abbrev ramV (M : IRam) : AV := .agg M.cells
def PgV (h F : Heap) (n : Nat) (B : List (BitVec 8)) (rw g : Nat) (bv : AV) : Prop := bv = byt B ∨ ∃ b, bv = .sl b 0 n n ∧ F b = some ⟨bys B, 0⟩ ∧ b ≠ rw ∧ b ≠ g ∧ h b = none
def PgQ (h : Heap) (n : Nat) (M : IRam) (r : AV) (F : Heap) : Prop := ∃ bv rw g, r = .agg [bv, .sl rw 0 M.w.length M.w.length, .sl g 0 M.g.length M.g.length] ∧ rw ≠ g ∧ F rw = some ⟨bos M.w, 0⟩ ∧ F g = some ⟨qws M.g, 0⟩ ∧
  PgV h F n M.b rw g bv ∧ (h rw = none ∧ h g = none) ∧ Sub h F
theorem pgQ_le {n : Nat} {M : IRam} {r : AV} {F : Heap} (hn : M.b.length = n) (hq : PgQ h n M r F) : Le r F (ramV M) h := by
  obtain ⟨bv, rw', g, rfl, hne, h1, h2, h3, ⟨h4, h5⟩, h6⟩ := hq
  have e1 : Le (.agg [bv, .sl rw' 0 M.w.length M.w.length, .sl g 0 M.g.length M.g.length]) F (.agg [bv, .ro (bos M.w) M.w.length, .sl g 0 M.g.length M.g.length]) (del F rw') :=
    Le.aggd (i := 1) (L := [bv, .sl rw' 0 M.w.length M.w.length, .sl g 0 M.g.length M.g.length]) rfl h1 (fun e => by simp [bos, List.length_eq_zero_iff.1 e])
  have e2 : Le (.agg [bv, .ro (bos M.w) M.w.length, .sl g 0 M.g.length M.g.length]) (del F rw') (.agg [bv, .ro (bos M.w) M.w.length, .ro (qws M.g) M.g.length]) (del (del F rw') g) :=
    Le.aggd (i := 2) (L := [bv, .ro (bos M.w) M.w.length, .sl g 0 M.g.length M.g.length]) rfl (sp := 0) (by rw [del_ne (Ne.symm hne)]; exact h2) (fun e => by simp [qws, List.length_eq_zero_iff.1 e])
  refine le_trans e1 (le_trans e2 ?_)
  rcases h3 with rfl | ⟨b, rfl, h7, h8, h9, h10⟩
  · refine Le.less fun c x hc => ?_
    rw [del_ne (fun e => by rw [e, h5] at hc; cases hc), del_ne (fun e => by rw [e, h4] at hc; cases hc)]
    exact h6 c x hc
  · have e3 : Le (.agg [.sl b 0 n n, .ro (bos M.w) M.w.length, .ro (qws M.g) M.g.length]) (del (del F rw') g) (.agg [.ro (bys M.b) n, .ro (bos M.w) M.w.length, .ro (qws M.g) M.g.length]) (del (del (del F rw') g) b) :=
      Le.aggd (i := 0) (L := [.sl b 0 n n, .ro (bos M.w) M.w.length, .ro (qws M.g) M.g.length]) rfl (sp := 0) (by rw [del_ne h9, del_ne h8]; exact h7) (fun e => by simp [bys, List.length_eq_zero_iff.1 (hn.trans e)])
    refine le_trans e3 ?_
    rw [ramV, IRam.cells, byt, hn]
    refine Le.less fun c x hc => ?_
    rw [del_ne (fun e => by rw [e, h10] at hc; cases hc), del_ne (fun e => by rw [e, h5] at hc; cases hc), del_ne (fun e => by rw [e, h4] at hc; cases hc)]
    exact h6 c x hc
theorem wdW_all (w : BitVec 16) (n : Nat) (hn : n ≤ 16) : wdW w n n = wdW w n 16 := by
  apply List.ext_getElem?
  intro i
  by_cases hi : i < n
  · have : i < 16 := by omega
    simp [wdW, hi, this]
  · rw [List.getElem?_eq_none (by simp [wdW]; omega), List.getElem?_eq_none (by simp [wdW]; omega)]
end Go.Ab
end
section
/- Parts of an image, arrivals: what the document asks of them. -/
set_option linter.unusedSimpArgs false
set_option linter.unusedVariables false
set_option maxRecDepth 10000
namespace Go.Ab
open Go.Proofs
variable {G : Glo} {h : Heap}
def cutS (l : List IPart) (k : Nat) : Nat := ((l.take k).map fun p => min p.b.length 100000).sum
theorem cutS_step (l : List IPart) (k : Nat) (hk : k < l.length) : cutS l (k + 1) = cutS l k + min (l.getD k IPart.zero).b.length 100000 := by
  rw [cutS, List.take_succ_eq_append_getElem hk, List.map_append, List.sum_append]
  simp [cutS, hk]
theorem cutS_mono (l : List IPart) (k j : Nat) : cutS l k ≤ cutS l (k + j) := by
  induction j with
  | zero => exact Nat.le_refl _
  | succ j ih =>
    by_cases hk : k + j < l.length
    · rw [← Nat.add_assoc, cutS_step l _ hk]; omega
    · have : cutS l (k + (j + 1)) = cutS l (k + j) := by
        rw [cutS, cutS, List.take_of_length_le (by omega), List.take_of_length_le (by omega)]
      omega
def longN (l : List IPart) : Bool := decide (65536 < cutS l l.length)
theorem rlong_spec (l : List IPart) (hl : l.length ≤ 1000) : Spec Tryz.prog G 81 [.ro (partC l) l.length] h (Is (.bool (longN l)) h) := by
  have hL : longN l = decide (65536 < cutS l l.length) := rfl
  generalize longN l = L at *
  refine Spec.is C81ok rfl ?_
  simp only [push_cast, simprocAttr]
  refine lpc.rel [0, 3, 4] (fun m ρ h' => ∃ k : Nat, m = l.length - k ∧ k ≤ l.length ∧ h = h' ∧ cutS l k ≤ 65536 ∧ ρ = [(0, .ro (partC l) l.length), (3, .int .i64 (cutS l k : Nat)), (4, .int .i64 (k : Int))]) ⟨_, 0, rfl, by omega, rfl, by simp [cutS], rfl⟩ ?_
  rintro m _ _ ⟨k, rfl, hk, rfl, hs, rfl⟩
  have hstep := cutS_step l k
  have hmono := cutS_mono l (k + 1) (l.length - (k + 1))
  by_cases hk2 : k < l.length
  · rw [show k + 1 + (l.length - (k + 1)) = l.length by omega] at hmono
    have hstep := hstep hk2
    generalize hn1 : cutS l (k + 1) = n1 at *
    generalize cutS l k = n0 at *
    generalize hb : (l.getD k IPart.zero).b.length = bl at *
    simp (disch := omega) only [push_cast, simprocAttr, wrap_i64, toNat_ofInt64, Nat.min_eq_left, Int.toNat_of_nonneg, hk2, hb]
    have he : ((n0 : Int) + if 100000 < (bl : Int) then 100000 else (bl : Int)) = (n1 : Int) := by rw [hstep]; split <;> omega
    rw [he]
    refine ⟨fun hv => ?_, fun hv => ⟨_, _, by omega, .refl _, k + 1, rfl, by omega, rfl, by omega, ?_⟩⟩
    · rw [hL, decide_eq_true (by omega)]
    · have : cutS l (k + 1) = n1 := hn1
      rw [this]; rfl
  · obtain rfl : k = l.length := by omega
    have q : ¬ (l.length < l.length) := by omega
    simp only [push_cast, simprocAttr, q]
    first | (intro hv; exact absurd hv q) | (rw [hL, decide_eq_false (by omega)])
theorem getP {l : List IPart} {n : Nat} (hp : ∀ p ∈ l, p.b.length ≤ n) (k : Nat) : (l.getD k IPart.zero).b.length ≤ n := by
  by_cases hn : k < l.length
  · have : l.getD k IPart.zero = l[k] := by simp [hn]
    rw [this]
    exact hp _ (List.getElem_mem _)
  · have : l.getD k IPart.zero = IPart.zero := by simp [Nat.le_of_not_lt hn]
    rw [this]; exact Nat.zero_le _
/-- Are parts inside of a memory? -/
def partOk (len : Nat) (p : IPart) : Bool := decide (p.b.length = 0) || hasN len p.at_ p.b.length
def checkP (l : List IPart) (len : Nat) : Int := if longN l then 3 else if allN l.length (fun i => partOk len (l.getD i IPart.zero)) then 0 else 6
theorem rCheckP_spec (l : List IPart) (b : List (BitVec 8)) (hl : l.length ≤ 1000) (hb : b.length ≤ 65536) (hp : ∀ p ∈ l, p.b.length ≤ 9223372036854775807) : Spec Tryz.prog G 59 [.ro (partC l) l.length, byt b] h (Is (.int .i64 (checkP l b.length)) h) := by
  have hL := rlong_spec (G := G) (h := h) l hl
  have hA : checkP l b.length = if longN l then 3 else if allN l.length (fun i => partOk b.length (l.getD i IPart.zero)) then 0 else 6 := rfl
  generalize checkP l b.length = X at *
  cases hlo : longN l with
  | true =>
    rw [hlo] at hL hA
    rw [hA]
    refine Spec.is C59ok rfl ?_
    simp only [push_cast, simprocAttr]
    refine hL.to ?_
    simp only [push_cast, simprocAttr]
  | false =>
    rw [hlo] at hL hA
    rw [if_neg (by simp)] at hA
    refine Spec.is C59ok rfl ?_
    simp only [push_cast, simprocAttr]
    refine hL.to ?_
    simp only [push_cast, simprocAttr]
    refine lpc.rel [0, 1, 5] (fun m ρ h' => ∃ k : Nat, m = l.length - k ∧ k ≤ l.length ∧ h = h' ∧ (∀ i, i < k → partOk b.length (l.getD i IPart.zero) = true) ∧ ρ = [(0, .ro (partC l) l.length), (1, byt b), (5, .int .i64 (k : Int))]) ⟨_, 0, rfl, by omega, rfl, by intro i hi; omega, rfl⟩ ?_
    rintro m _ _ ⟨k, rfl, hk, rfl, hall, rfl⟩
    have hO : partOk b.length (l.getD k IPart.zero) = (decide ((l.getD k IPart.zero).b.length = 0) || hasN b.length (l.getD k IPart.zero).at_ (l.getD k IPart.zero).b.length) := rfl
    have hx : ∀ i, i < k + 1 → partOk b.length (l.getD k IPart.zero) = true → partOk b.length (l.getD i IPart.zero) = true := fun i hi e => by
      by_cases hik : i = k
      · subst hik; exact e
      · exact hall i (by omega)
    by_cases hk2 : k < l.length
    · have hpl : (l.getD k IPart.zero).b.length ≤ 9223372036854775807 := getP hp k
      have hH := rHas_spec (G := G) (h := h) b (l.getD k IPart.zero).at_ ((l.getD k IPart.zero).b.length : Nat) hb (by omega) (by omega)
      generalize hgp : l.getD k IPart.zero = p at *
      by_cases h0 : p.b.length = 0
      · simp (disch := omega) only [push_cast, simprocAttr, wrap_i64, toNat_ofInt64, Nat.min_eq_left, Int.toNat_of_nonneg, hk2, hgp, h0]
        refine ⟨_, _, by omega, .refl _, k + 1, rfl, by omega, rfl, fun i hi => hx i hi ?_, rfl⟩
        rw [hO, decide_eq_true h0, Bool.true_or]
      · have h0' : (p.b.length : Int) > 0 := by omega
        simp only [push_cast, simprocAttr, hk2, hgp, h0']
        refine hH.to ?_
        cases hh : hasN b.length p.at_ p.b.length with
        | true =>
          simp (disch := omega) only [push_cast, simprocAttr, wrap_i64, toNat_ofInt64, Nat.min_eq_left, Int.toNat_of_nonneg]
          refine ⟨_, _, by omega, .refl _, k + 1, rfl, by omega, rfl, fun i hi => hx i hi ?_, rfl⟩
          rw [hO, hh, Bool.or_true]
        | false =>
          simp only [push_cast, simprocAttr]
          have := allN_false (n := l.length) (p := fun i => partOk b.length (l.getD i IPart.zero)) k hk2 (by show partOk b.length (l.getD k IPart.zero) = false; rw [hgp, hO, hh, decide_eq_false h0]; rfl)
          rw [hA, this]; rfl
    · obtain rfl : k = l.length := by omega
      have q : ¬ (l.length < l.length) := by omega
      simp only [push_cast, simprocAttr, q]
      rw [hA, allN_true hall]; rfl
/-- Parts that are laid. -/
def putP (b : List (BitVec 8)) (p : IPart) : List (BitVec 8) := if p.b.length = 0 then b else b.take (p.at_.toNat - 2147483648) ++ p.b ++ b.drop (p.at_.toNat - 2147483648 + p.b.length)
def layN (b : List (BitVec 8)) (l : List IPart) : List (BitVec 8) := l.foldl putP b
theorem putP_len (b : List (BitVec 8)) (p : IPart) (h : partOk b.length p = true) : (putP b p).length = b.length := by
  rw [putP]
  split
  · rfl
  · next h0 =>
    simp only [partOk, Bool.or_eq_true, decide_eq_true_eq, hasN, Bool.and_eq_true] at h
    have := p.at_.isLt
    simp
    omega
theorem lay_len (l : List IPart) (b : List (BitVec 8)) (h : ∀ p ∈ l, partOk b.length p = true) : (layN b l).length = b.length := by
  induction l generalizing b with
  | nil => rfl
  | cons p r ih =>
    have h1 := putP_len b p (h p (by simp))
    rw [layN, List.foldl_cons]
    have := ih (putP b p) (by rw [h1]; exact fun q hq => h q (by simp [hq]))
    rw [layN, h1] at this
    exact this
theorem lay_step (l : List IPart) (b : List (BitVec 8)) (k : Nat) (hk : k < l.length) : layN b (l.take (k + 1)) = putP (layN b (l.take k)) (l.getD k IPart.zero) := by
  rw [layN, List.take_succ_eq_append_getElem hk, List.foldl_append]
  simp [layN, hk]
/-- Arrivals: too many, out of order, or right. -/
def riseN (l : List IArr) (i : Nat) : Bool := decide (i = 0) || decide ((l.getD (i - 1) IArr.zero).tick.toNat ≤ (l.getD i IArr.zero).tick.toNat)
def rightA (l : List IArr) : Int := if 256 < l.length then 3 else if allN l.length (riseN l) then 0 else 1
theorem rRight12_spec (l : List IArr) : Spec Tryz.prog G 60 [arrs l] h (Is (.int .i64 (rightA l)) h) := by
  have hA : rightA l = if 256 < l.length then 3 else if allN l.length (riseN l) then 0 else 1 := rfl
  generalize rightA l = X at *
  by_cases hbig : 256 < l.length
  · rw [if_pos hbig] at hA
    have q : (l.length : Int) > 256 := by omega
    rw [hA]
    refine Spec.is C60ok rfl ?_
    simp only [push_cast, simprocAttr, q]
  · rw [if_neg hbig] at hA
    have q : ¬ (l.length : Int) > 256 := by omega
    have hr1 : ∀ i, i < 1 → riseN l i = true := fun i hi => by
      have h0 : i = 0 := by omega
      rw [h0]; rfl
    refine Spec.is C60ok rfl ?_
    simp only [push_cast, simprocAttr, q]
    refine lpc.rel [0, 3] (fun m ρ h' => ∃ k : Nat, m = l.length - k ∧ 1 ≤ k ∧ (k ≤ l.length ∨ k = 1) ∧ h = h' ∧ (∀ i, i < k → riseN l i = true) ∧ ρ = [(0, arrs l), (3, .int .i64 (k : Int))]) ⟨_, 1, rfl, by omega, .inr rfl, rfl, hr1, rfl⟩ ?_
    rintro m _ _ ⟨k, rfl, hk1, hk, rfl, hall, rfl⟩
    by_cases hk2 : k < l.length
    · obtain ⟨j, hkj⟩ : ∃ j, k = j + 1 := ⟨k - 1, by omega⟩
      have hR : riseN l k = decide ((l.getD j IArr.zero).tick.toNat ≤ (l.getD k IArr.zero).tick.toNat) := by
        rw [riseN, decide_eq_false (by omega), Bool.false_or, show k - 1 = j by omega]
      have hj : j < l.length := by omega
      have ew : IntKind.i64.wrap ((k : Int) - 1) = (j : Int) := by rw [wrap_i64 (by omega) (by omega)]; omega
      have ew2 : IntKind.i64.wrap ((k : Int) + 1) = ((k + 1 : Nat) : Int) := by rw [wrap_i64 (by omega) (by omega)]; omega
      generalize hg1 : l.getD j IArr.zero = a1 at *
      generalize hg2 : l.getD k IArr.zero = a2 at *
      by_cases hlt : a2.tick.toNat < a1.tick.toNat
      · simp only [push_cast, simprocAttr, hk2, hj, ew, hg1, hg2, hlt]
        rw [hA, allN_false k hk2 (by rw [hR]; exact decide_eq_false (by omega))]; rfl
      · simp only [push_cast, simprocAttr, hk2, hj, ew, ew2, hg1, hg2, hlt]
        refine ⟨_, _, by omega, .refl _, k + 1, rfl, by omega, .inl (by omega), rfl, fun i hi => ?_, rfl⟩
        by_cases hik : i = k
        · subst hik; rw [hR]; exact decide_eq_true (by omega)
        · exact hall i (by omega)
    · have q : ¬ (k < l.length) := by omega
      simp only [push_cast, simprocAttr, q]
      rw [hA, allN_true (fun i hi => hall i (by omega))]; rfl
end Go.Ab
end
section
/- Kept registers that are legal, a beginning that is right: the document's. -/
set_option linter.unusedSimpArgs false
set_option linter.unusedVariables false
set_option maxRecDepth 10000
namespace Go.Ab
open Go.Proofs
section
variable {P : Program} {G : Glo}
/-- A row of one's own that is handed over for good. -/
theorem Spec.froze {f : FuncId} {a a' : AV} {l1 l2 : List AV} {h g : Heap} {Q : AV → Heap → Prop} (hs : Spec P G f (l1 ++ a' :: l2) g Q) (hl : Le a h a' g) (hsub : Sub g h) : Spec P G f (l1 ++ a :: l2) h Q := by
  intro w vs h1 h2 h3
  have hk : Keeps w h.dom w g.dom := ⟨Nat.le_refl _, fun c _ hn => ⟨fun hd => hn fun e => hd (hsub.none e), rfl⟩, fun _ h => h⟩
  have hlen := h3.1
  have hi : l1.length < vs.length := by rw [← hlen]; simp
  obtain ⟨x, y, z⟩ := hl w vs[l1.length] h1 (h3.2 l1.length a _ (by simp) (by simp [hi]))
  refine (hs w vs x (h2.keep hk) ⟨by rw [← hlen]; simp, fun i b v e1 e2 => ?_⟩).mono fun _ w' ⟨v, r, h', a1, b1, c1, d1, e1⟩ => ⟨v, r, h', a1, b1, c1, d1, e1.size, fun b hb hn => e1.blk b hb (hsub.none hn), e1.cel, e1.os, e1.tape, e1.out⟩
  by_cases hil : i = l1.length
  · subst hil
    rw [List.getElem?_append_right (Nat.le_refl _), Nat.sub_self] at e1
    cases e1
    rw [List.getElem?_eq_getElem hi] at e2
    cases e2
    exact y
  · refine (h3.2 i b v ?_ e2).keep hk
    rw [← e1]
    by_cases hlt : i < l1.length
    · rw [List.getElem?_append_left hlt, List.getElem?_append_left hlt]
    · rw [List.getElem?_append_right (by omega), List.getElem?_append_right (by omega)]
      obtain ⟨j, hj⟩ : ∃ j, i - l1.length = j + 1 := ⟨i - l1.length - 1, by omega⟩
      rw [hj]; rfl
end
variable {G : Glo} {h : Heap}
def numL : List Int := [768, 769, 772, 773, 832, 833, 834, 835, 836, 2816, 2818, 2944, 2946, 3072, 3073, 3074, 3200, 3201, 3202, 3857, 3858, 3859, 3860]
def numC : List AV := numL.map fun n => .int .i64 n
def keepL : List (BitVec 32) := [136#32, 0#32, 2184#32, 4294967293#32, 4294967295#32, 4294967292#32, 4294967295#32, 4294967295#32, 0#32, 4294967295#32, 4294967295#32, 4294967295#32, 4294967295#32, 0#32, 0#32, 0#32, 0#32, 0#32, 0#32, 0#32, 0#32, 0#32, 0#32]
def fixL : List (BitVec 32) := [6144#32, 1073746176#32, 0#32, 0#32, 0#32, 0#32, 0#32, 0#32, 0#32, 0#32, 0#32, 0#32, 0#32, 0#32, 0#32, 0#32, 0#32, 0#32, 0#32, 0#32, 0#32, 0#32, 0#32]
theorem numC_get (k : Nat) : numC[k]? = if k < 23 then some (.int .i64 (numL.getD k 0)) else none := by
  rw [numC, List.getElem?_map]
  by_cases hk : k < 23
  · have : k < numL.length := hk
    rw [if_pos hk, List.getElem?_eq_getElem this]; simp [this]
  · rw [if_neg hk, List.getElem?_eq_none (by show 23 ≤ k; omega)]; rfl
theorem Numbers_spec : Spec Tryz.prog G 102 [] h (Is (.ro numC 23) h) := by
  refine Spec.is C102ok rfl ?_
  simp only [push_cast, simprocAttr]
  first | done | rfl | exact ⟨rfl, rfl⟩
theorem Kept_spec : Spec Tryz.prog G 84 [] h (Is (.ro (wds keepL) 23) h) := by
  refine Spec.is C84ok rfl ?_
  simp only [push_cast, simprocAttr]
  first | done | rfl | exact ⟨rfl, rfl⟩
theorem Fixed_spec : Spec Tryz.prog G 85 [] h (Is (.ro (wds fixL) 23) h) := by
  refine Spec.is C85ok rfl ?_
  simp only [push_cast, simprocAttr]
  first | done | rfl | exact ⟨rfl, rfl⟩
theorem Place_spec (i : Nat) (hi : i < 23) (hne : ∀ j, j < i → numL.getD j 0 ≠ numL.getD i 0) : Spec Tryz.prog G 83 [.int .i64 (numL.getD i 0)] h (Is (.int .i64 (i : Int)) h) := by
  generalize hn : numL.getD i 0 = n at *
  refine Spec.is C83ok rfl ?_
  simp only [push_cast, simprocAttr]
  refine (Numbers_spec (G := G)).to ?_
  simp only [push_cast, simprocAttr]
  refine lpc.rel [0, 3, 4] (fun m ρ h' => ∃ k : Nat, m = i - k ∧ k ≤ i ∧ h = h' ∧ ρ = [(0, .int .i64 n), (3, .ro numC 23), (4, .int .i64 (k : Int))]) ⟨_, 0, rfl, by omega, rfl, rfl⟩ ?_
  rintro m _ _ ⟨k, rfl, hk, rfl, rfl⟩
  have hk23 : k < 23 := by omega
  have hk23' : (k : Int) < 23 := by omega
  have hg := numC_get k
  rw [if_pos hk23] at hg
  by_cases hki : k = i
  · subst hki
    rw [hn] at hg
    simp only [push_cast, simprocAttr, hk23, hk23', hg]
  · have hx := hne k (by omega)
    generalize numL.getD k 0 = x at *
    simp (disch := omega) only [push_cast, simprocAttr, wrap_i64, toNat_ofInt64, Nat.min_eq_left, Int.toNat_of_nonneg, hk23, hk23', hg, hx]
    exact ⟨_, _, by omega, .refl _, k + 1, rfl, by omega, rfl, rfl⟩
theorem Legal09_spec (i : Nat) (hi : i < 23) (hne : ∀ j, j < i → numL.getD j 0 ≠ numL.getD i 0) (w : BitVec 32) : Spec Tryz.prog G 61 [.int .i64 (numL.getD i 0), .int .u32 w.toNat] h (Is (.int .u32 ((w &&& keepL.getD i 0#32) ||| fixL.getD i 0#32).toNat) h) := by
  have hP := Place_spec (G := G) (h := h) i hi hne
  have h23 : (i : Int) < 23 := by omega
  have l1 : keepL.length = 23 := rfl
  have l2 : fixL.length = 23 := rfl
  generalize numL.getD i 0 = n at *
  generalize hga : keepL.getD i 0#32 = a at *
  generalize hgb : fixL.getD i 0#32 = b at *
  refine Spec.is C61ok rfl ?_
  simp only [push_cast, simprocAttr]
  refine hP.to ?_
  simp only [push_cast, simprocAttr]
  refine (Kept_spec (G := G)).to ?_
  simp only [push_cast, simprocAttr, hga, l1, hi, h23]
  refine (Fixed_spec (G := G)).to ?_
  simp only [push_cast, simprocAttr, hgb, l2, hi, h23]
  rw [if_pos (by rw [l1]; exact hi), hga]
theorem Legal_st (w : BitVec 32) : Spec Tryz.prog G 61 [.int .i64 768, .int .u32 w.toNat] h (Is (.int .u32 ((w &&& 136#32) ||| 6144#32).toNat) h) := Legal09_spec 0 (by omega) (fun j hj => by omega) w
theorem Legal_ie (w : BitVec 32) : Spec Tryz.prog G 61 [.int .i64 772, .int .u32 w.toNat] h (Is (.int .u32 ((w &&& 2184#32) ||| 0#32).toNat) h) := Legal09_spec 2 (by omega) (fun j hj => by match j, hj with | 0, _ => decide | 1, _ => decide) w
theorem Legal_tv (w : BitVec 32) : Spec Tryz.prog G 61 [.int .i64 773, .int .u32 w.toNat] h (Is (.int .u32 ((w &&& 4294967293#32) ||| 0#32).toNat) h) := Legal09_spec 3 (by omega) (fun j hj => by match j, hj with | 0, _ => decide | 1, _ => decide | 2, _ => decide) w
theorem Legal_ep (w : BitVec 32) : Spec Tryz.prog G 61 [.int .i64 833, .int .u32 w.toNat] h (Is (.int .u32 ((w &&& 4294967292#32) ||| 0#32).toNat) h) := Legal09_spec 5 (by omega) (fun j hj => by match j, hj with | 0, _ => decide | 1, _ => decide | 2, _ => decide | 3, _ => decide | 4, _ => decide) w
def legalK (k : Kp) : Bool := decide (k.st = (k.st &&& 136#32) ||| 6144#32) && decide (k.ie = (k.ie &&& 2184#32) ||| 0#32) && decide (k.tv = (k.tv &&& 4294967293#32) ||| 0#32) && decide (k.ep = (k.ep &&& 4294967292#32) ||| 0#32)
theorem eq32 (a b : BitVec 32) : ((a.toNat : Int) == (b.toNat : Int)) = decide (a = b) := by
  rw [Bool.eq_iff_iff]; simp only [beq_iff_eq, decide_eq_true_eq]
  constructor
  · intro e; exact BitVec.eq_of_toNat_eq (by omega)
  · rintro rfl; rfl
theorem Legal18_spec (k : Kp) : Spec Tryz.prog G 31 [.agg (wds k.l)] h (Is (.bool (legalK k)) h) := by
  have hA : legalK k = (decide (k.st = (k.st &&& 136#32) ||| 6144#32) && decide (k.ie = (k.ie &&& 2184#32) ||| 0#32) && decide (k.tv = (k.tv &&& 4294967293#32) ||| 0#32) && decide (k.ep = (k.ep &&& 4294967292#32) ||| 0#32)) := rfl
  have h1 := Legal_st (G := G) (h := h) k.st
  have h2 := Legal_ie (G := G) (h := h) k.ie
  have h3 := Legal_tv (G := G) (h := h) k.tv
  have h4 := Legal_ep (G := G) (h := h) k.ep
  rw [kp_wds]
  generalize legalK k = X at *
  generalize hx1 : (k.st &&& 136#32) ||| 6144#32 = x1 at *
  generalize hx2 : (k.ie &&& 2184#32) ||| 0#32 = x2 at *
  generalize hx3 : (k.tv &&& 4294967293#32) ||| 0#32 = x3 at *
  generalize hx4 : (k.ep &&& 4294967292#32) ||| 0#32 = x4 at *
  refine Spec.is C31ok rfl ?_
  simp only [push_cast, simprocAttr]
  refine h1.to ?_
  rcases hb1 : decide (k.st = x1) with _ | _
  · rw [hb1, Bool.false_and, Bool.false_and, Bool.false_and] at hA
    simp only [push_cast, simprocAttr, eq32, hb1]
    rw [hA]
  rw [hb1, Bool.true_and] at hA
  simp only [push_cast, simprocAttr, eq32, hb1]
  refine h2.to ?_
  rcases hb2 : decide (k.ie = x2) with _ | _
  · rw [hb2, Bool.false_and, Bool.false_and] at hA
    simp only [push_cast, simprocAttr, eq32, hb2]
    rw [hA]
  rw [hb2, Bool.true_and] at hA
  simp only [push_cast, simprocAttr, eq32, hb2]
  refine h3.to ?_
  rcases hb3 : decide (k.tv = x3) with _ | _
  · rw [hb3, Bool.false_and] at hA
    simp only [push_cast, simprocAttr, eq32, hb3]
    rw [hA]
  rw [hb3, Bool.true_and] at hA
  simp only [push_cast, simprocAttr, eq32, hb3]
  refine h4.to ?_
  simp only [push_cast, simprocAttr, eq32]
  rw [hA]
end Go.Ab
end
section
/- A beginning: is it right, and the document's machine behind it. -/
set_option linter.unusedSimpArgs false
set_option linter.unusedVariables false
set_option maxRecDepth 10000
namespace Go.Ab
open Go.Proofs
section
variable (s : ISt)
def ISt.tl : List AV := [.int .u32 (s.k.st.toNat : Int), .int .u32 (s.k.ie.toNat : Int), .int .u32 (s.k.tv.toNat : Int), .int .u32 (s.k.sc.toNat : Int), .int .u32 (s.k.ep.toNat : Int), .int .u32 (s.k.ca.toNat : Int), .int .u32 (s.k.tl.toNat : Int),
  .int .u64 (s.cyc.toNat : Int), .int .u64 (s.ins.toNat : Int), .int .u64 (s.t.off.toNat : Int), .int .u64 (s.t.mark.toNat : Int), .bool s.t.soft, .int .u64 (s.tick.toNat : Int), .int .u64 (s.ret.toNat : Int)]
theorem ISt.cells_eq : s.cells = .int .i64 s.size :: .ro (partC s.parts) s.parts.length :: arrs s.input :: rec32 (.int .u32 (s.pc.toNat : Int)) s.regs s.tl := rfl
theorem part_cons (x : AV) (l : List AV) (k n : Nat) : partOf (x :: l) (k + 1) (some n) = partOf l k (some n) := by
  rw [partOf_some, partOf_some, List.length_cons, List.drop_succ_cons]
  by_cases h : k + n ≤ l.length
  · rw [if_pos h, if_pos (by omega)]
  · rw [if_neg h, if_neg (by omega)]
theorem ist_t (k : Nat) : s.cells[36 + k]? = s.tl[k]? := by
  rw [ISt.cells_eq, show 36 + k = (33 + k) + 1 + 1 + 1 by omega, List.getElem?_cons_succ, List.getElem?_cons_succ, List.getElem?_cons_succ, r32_t]
theorem ist_p (k n : Nat) (h : k + n ≤ s.tl.length) : partOf s.cells (36 + k) (some n) = some (.agg ((s.tl.drop k).take n)) := by
  rw [ISt.cells_eq, show 36 + k = (33 + k) + 1 + 1 + 1 by omega, part_cons, part_cons, part_cons, r32_part _ _ _ _ _ h]
@[push_cast] theorem ist_0 : s.cells[0]? = some (.int .i64 s.size) := rfl
@[push_cast] theorem ist_1 : s.cells[1]? = some (.ro (partC s.parts) s.parts.length) := rfl
@[push_cast] theorem ist_2 : s.cells[2]? = some (arrs s.input) := rfl
@[push_cast] theorem ist_3 : s.cells[3]? = some (.int .u32 (s.pc.toNat : Int)) := rfl
@[push_cast] theorem ist_4 : s.cells[4]? = some (.int .u32 ((s.regs.toList.getD 0 0#32).toNat : Int)) := by
  rw [ISt.cells_eq, List.getElem?_cons_succ, List.getElem?_cons_succ, List.getElem?_cons_succ]
  exact r32_r _ _ _ 0 (by omega)
@[push_cast] theorem ist_43 : s.cells[43]? = some (.int .u64 (s.cyc.toNat : Int)) := ist_t s 7
@[push_cast] theorem ist_44 : s.cells[44]? = some (.int .u64 (s.ins.toNat : Int)) := ist_t s 8
@[push_cast] theorem ist_45 : s.cells[45]? = some (.int .u64 (s.t.off.toNat : Int)) := ist_t s 9
@[push_cast] theorem ist_46 : s.cells[46]? = some (.int .u64 (s.t.mark.toNat : Int)) := ist_t s 10
@[push_cast] theorem ist_47 : s.cells[47]? = some (.bool s.t.soft) := ist_t s 11
@[push_cast] theorem ist_48 : s.cells[48]? = some (.int .u64 (s.tick.toNat : Int)) := ist_t s 12
@[push_cast] theorem ist_49 : s.cells[49]? = some (.int .u64 (s.ret.toNat : Int)) := ist_t s 13
@[push_cast] theorem ist_len : s.cells.length = 50 := by
  rw [ISt.cells_eq, List.length_cons, List.length_cons, List.length_cons, r32_len]; rfl
@[push_cast] theorem ist_regs : partOf s.cells 4 (some 32) = some (.agg (wds s.regs.toList)) := by
  rw [ISt.cells_eq, show 4 = 1 + 1 + 1 + 1 by omega, part_cons, part_cons, part_cons, r32_regs]
@[push_cast] theorem ist_kept : partOf s.cells 36 (some 7) = some (.agg (wds s.k.l)) := ist_p s 0 7 (by simp [ISt.tl])
@[push_cast] theorem ist_tim : partOf s.cells 45 (some 3) = some (.agg s.t.cells) := ist_p s 9 3 (by simp [ISt.tl])
@[push_cast] theorem ist_all : partOf s.cells 0 (some 50) = some (.agg s.cells) := partOf_all (ist_len s)
@[push_cast] theorem ist_s3 (w : BitVec 32) : s.cells.set 3 (.int .u32 (w.toNat : Int)) = ISt.cells { s with pc := w } := rfl
end
variable {G : Glo} {h : Heap}
/-- What stands against a new machine. -/
def whyN (size : Int) (l : List IPart) (input : List IArr) : Int := if rightN size then (if checkP l size.toNat = 0 then rightA input else checkP l size.toNat) else 4
theorem checkP_le (l : List IPart) (n : Nat) : checkP l n = 0 ∨ checkP l n = 3 ∨ checkP l n = 6 := by
  unfold checkP; split
  · exact .inr (.inl rfl)
  · split
    · exact .inl rfl
    · exact .inr (.inr rfl)
theorem rWhy_spec (size : Int) (l : List IPart) (input : List IArr) (hl : l.length ≤ 1000) (hp : ∀ p ∈ l, p.b.length ≤ 9223372036854775807) : Spec Tryz.prog G 30 [.int .i64 size, .ro (partC l) l.length, arrs input] h (Is (.int .i64 (whyN size l input)) h) := by
  have hA : whyN size l input = if rightN size then (if checkP l size.toNat = 0 then rightA input else checkP l size.toNat) else 4 := rfl
  have hR := rRight10_spec (G := G) (h := h) size
  generalize whyN size l input = X at *
  cases hr : rightN size with
  | false =>
    rw [hr] at hA hR
    rw [hA]
    refine Spec.is C30ok rfl ?_
    simp only [push_cast, simprocAttr]
    refine hR.to ?_
    simp only [push_cast, simprocAttr]
  | true =>
    rw [hr] at hA hR
    rw [if_pos rfl] at hA
    have hr' := hr
    simp only [rightN, Bool.and_eq_true, decide_eq_true_eq] at hr'
    obtain ⟨n, hn⟩ : ∃ n : Nat, size = n := ⟨size.toNat, by omega⟩
    subst hn
    rw [Int.toNat_natCast] at hA
    have hC := rCheckP_spec (G := G) (h := h) l (List.replicate n 0#8) hl (by simp; omega) hp
    have hcells : bys (List.replicate n 0#8) = List.replicate n (AV.int .u8 0) := (new_cells n).1
    rw [byt, hcells, List.length_replicate] at hC
    generalize checkP l n = cp at *
    have z1 : ((n : Int) - (n : Int)).toNat = 0 := by omega
    refine Spec.is C30ok rfl ?_
    simp only [push_cast, simprocAttr]
    refine hR.to ?_
    simp (disch := omega) only [push_cast, simprocAttr, wrap_i64, toNat_ofInt64, Nat.min_eq_left, Int.toNat_of_nonneg, z1]
    refine ⟨by omega, by omega, by omega, fun c hc => ?_⟩
    refine Spec.froze (l1 := [.ro (partC l) l.length]) (l2 := []) hC (Le.freeze (pre := []) hc (fun e => by omega)) ((Sub.refl h).alloc hc) |>.mono ?_
    rintro _ _ ⟨rfl, rfl⟩
    by_cases h0 : cp = 0
    · rw [if_pos h0] at hA
      simp only [push_cast, simprocAttr, h0]
      refine (rRight12_spec (G := G) input).to ?_
      rw [hA]
      simp only [push_cast, simprocAttr]
    · rw [if_neg h0] at hA
      simp only [push_cast, simprocAttr, h0]
      rw [hA]
/-- May a machine begin so? -/
def ISt.right (s : ISt) : Bool := decide (whyN s.size s.parts s.input = 0) && decide (s.pc.toNat % 4 = 0) && decide (s.regs.toList.getD 0 0#32 = 0#32) && legalK s.k
theorem rRight18_spec (s : ISt) (hl : s.parts.length ≤ 1000) (hp : ∀ p ∈ s.parts, p.b.length ≤ 9223372036854775807) : Spec Tryz.prog G 13 [.agg s.cells] h (Is (.bool s.right) h) := by
  have hA : s.right = (decide (whyN s.size s.parts s.input = 0) && decide (s.pc.toNat % 4 = 0) && decide (s.regs.toList.getD 0 0#32 = 0#32) && legalK s.k) := rfl
  have hW := rWhy_spec (G := G) (h := h) s.size s.parts s.input hl hp
  have hK := Legal18_spec (G := G) (h := h) s.k
  have hu := u32_rem s.pc
  have hz := bvz (s.regs.toList.getD 0 0#32)
  have hz2 := beq32 (s.regs.toList.getD 0 0#32)
  generalize s.right = X at *
  generalize whyN s.size s.parts s.input = wy at *
  generalize legalK s.k = lk2 at *
  have g4 := ist_4 s
  generalize s.regs.toList.getD 0 0#32 = r0 at *
  refine Spec.is C13ok rfl ?_
  simp only [push_cast, simprocAttr]
  refine hW.to ?_
  by_cases h0 : wy = 0
  · rw [decide_eq_true h0, Bool.true_and] at hA
    by_cases h4 : s.pc.toNat % 4 = 0
    · rw [decide_eq_true h4, Bool.true_and] at hA
      have h4' := hu.2 h4
      by_cases hr : r0 = 0#32
      · rw [decide_eq_true hr, Bool.true_and] at hA
        rw [hr] at g4
        simp only [push_cast, simprocAttr, h0, h4', g4, hr]
        refine hK.to ?_
        simp only [push_cast, simprocAttr]
        rw [hA]
      · rw [decide_eq_false hr, Bool.false_and] at hA
        have hr' : ¬ ((r0.toNat : Int) = 0) := by rw [hz]; exact hr
        simp only [push_cast, simprocAttr, h0, h4', g4, hr']
        rw [hA]
    · rw [decide_eq_false h4, Bool.false_and, Bool.false_and] at hA
      have h4' : ¬ ((s.pc.toNat : Int).tmod 4 = 0) := fun e => h4 (hu.1 e)
      simp only [push_cast, simprocAttr, h0, h4', g4]
      rw [hA]
  · rw [decide_eq_false h0, Bool.false_and, Bool.false_and, Bool.false_and] at hA
    have h0' : (wy == 0) = false := by rw [beq_eq_false_iff_ne]; exact h0
    simp only [push_cast, simprocAttr, h0, h0']
    first | done | (rw [hA]; intros; rfl) | rw [hA]
def Kp.new : Kp := ⟨6144#32, 0#32, 0#32, 0#32, 0#32, 0#32, 0#32⟩
theorem Le.aggE {g : Heap} {i : Nat} {L : List AV} (hi : L[i]? = some .nils) : Le (.agg L) g (.agg (L.set i (.ro [] 0))) g := by
  intro w v hw hr
  obtain ⟨cs, rfl, hl, h1, hr1⟩ := rep_agg hr
  refine ⟨hw, .agg _ _ (by simpa using hl) h1 fun j u c e1 e2 => ?_, fun _ h => h⟩
  rw [List.getElem?_set] at e1
  split at e1
  · rename_i hij
    subst hij
    split at e1
    · cases e1
      rw [rep_nils (hr1 i _ c hi e2)]; exact .roe none 0
    · cases e1
  · exact hr1 j u c e1 e2
/-- A new machine, as the document has it. -/
def newC (n : Nat) (parts : List IPart) (input : List IArr) : ICpu := ⟨2147483648#32, Rg.zero, ⟨Kp.new, 0, 0⟩, 0, 0, ⟨layN (List.replicate n 0#8) parts, ⟨input, 0, [], false, []⟩, ⟨0, neverB, false⟩, false, 0⟩, []⟩
def newL (n : Nat) (parts : List IPart) (input : List IArr) : List AV := (((newC n parts input).cells.set 47 .nils).set 49 .nils).set 55 .nils
theorem newL_le (n : Nat) (parts : List IPart) (input : List IArr) : Le (.agg (newL n parts input)) h (.agg (newC n parts input).cells) h := by
  have e1 := Le.aggE (g := h) (i := 47) (L := newL n parts input) rfl
  have e2 := Le.aggE (g := h) (i := 49) (L := (newL n parts input).set 47 (.ro [] 0)) rfl
  have e3 := Le.aggE (g := h) (i := 55) (L := ((newL n parts input).set 47 (.ro [] 0)).set 49 (.ro [] 0)) rfl
  exact le_trans e1 (le_trans e2 e3)
end Go.Ab
end
section
/- The document's machine behind a beginning. -/
set_option linter.unusedSimpArgs false
set_option linter.unusedVariables false
set_option maxRecDepth 10000
namespace Go.Ab
open Go.Proofs
variable {G : Glo} {h : Heap}
theorem rgOf_of (r : Rg) : rgOf r.toList = r := by
  apply Vector.toList_inj.1
  exact rgOf_toList (by simp)
theorem cpu_sR (c : ICpu) (r : Rg) : splice c.cells 1 (wds r.toList) = ICpu.cells { c with regs := r } := by
  rw [cpu_sr c _ (by simp), rgOf_of]
theorem cpb_sR (c : ICpu) (bus : Nat) (v : AV) (r : Rg) : splice (cpuC c bus v) 1 (wds r.toList) = cpuC { c with regs := r } bus v := by
  rw [cpb_sr c bus v _ (by simp), rgOf_of]
def ISt.fl (s : ISt) : IFile := ⟨s.k, s.cyc, s.ins⟩
def beginC (s : ISt) (n : Nat) : ICpu :=
  let c := newC n s.parts s.input
  { c with pc := s.pc, regs := s.regs, f := s.fl, tick := s.tick, ret := s.ret, bus := { c.bus with t := s.t } }
end Go.Ab
end
section
/- Parts that are laid: the program's. -/
set_option linter.unusedSimpArgs false
set_option linter.unusedVariables false
set_option maxRecDepth 10000
namespace Go.Ab
open Go.Proofs
variable {G : Glo} {h : Heap}
theorem cutS_get (l : List IPart) (k : Nat) (hk : k < l.length) (hl : cutS l l.length ≤ 65536) : (l.getD k IPart.zero).b.length ≤ 65536 ∧ cutS l (k + 1) = cutS l k + (l.getD k IPart.zero).b.length ∧ cutS l (k + 1) ≤ 65536 := by
  have h1 := cutS_step l k hk
  have h2 := cutS_mono l (k + 1) (l.length - (k + 1))
  rw [show k + 1 + (l.length - (k + 1)) = l.length by omega] at h2
  omega
theorem iLong_spec (l : List IPart) (hl : l.length ≤ 1000) (hlo : longN l = false) : Spec Tryz.prog G 86 [.ro (partC l) l.length] h (Is (.bool false) h) := by
  have hl2 : cutS l l.length ≤ 65536 := by simpa [longN] using hlo
  have q0 : ¬ ((l.length : Int) > 1024) := by omega
  refine Spec.is C86ok rfl ?_
  simp only [push_cast, simprocAttr, q0]
  refine lpc.rel [3, 9, 10, 11] (fun m ρ h' => ∃ k : Nat, m = l.length - k ∧ k ≤ l.length ∧ h = h' ∧ ρ = [(3, .int .i64 (cutS l k : Nat)), (9, .ro (partC l) l.length), (10, .int .i64 (l.length : Nat)), (11, .int .i64 (k : Int))]) ⟨_, 0, rfl, by omega, rfl, rfl⟩ ?_
  rintro m _ _ ⟨k, rfl, hk, rfl, rfl⟩
  have hstep := cutS_get l k
  by_cases hk2 : k < l.length
  · obtain ⟨s1, s2, s3⟩ := hstep hk2 hl2
    have hp := part_p l k
    rw [if_pos hk2] at hp
    generalize hgp : l.getD k IPart.zero = p at *
    generalize hn1 : cutS l (k + 1) = n1 at *
    generalize hn0 : cutS l k = n0 at *
    have q1 : ¬ ((p.b.length : Int) > 65536 - (n0 : Int)) := by omega
    simp (disch := omega) only [push_cast, simprocAttr, wrap_i64, toNat_ofInt64, Nat.min_eq_left, Int.toNat_of_nonneg, hk2, hp, IPart.cells, q1]
    intro c hc
    rw [era_none hc]
    refine ⟨_, _, by omega, .refl _, k + 1, rfl, by omega, rfl, ?_⟩
    have e : cutS l (k + 1) = n0 + p.b.length := by omega
    rw [e]; rfl
  · obtain rfl : k = l.length := by omega
    have q : ¬ (l.length < l.length) := by omega
    simp only [push_cast, simprocAttr, q]
theorem inside_spec (p : IPart) (n : Nat) (hn : n ≤ 65536) (hok : partOk n p = true) : Spec Tryz.prog G 87 [.agg p.cells, .int .i64 n] h (Is (.bool true) h) := by
  have hlt := p.at_.isLt
  by_cases h0 : p.b.length = 0
  · have h0' : (p.b.length : Int) = 0 := by omega
    refine Spec.is C87ok rfl ?_
    simp only [push_cast, simprocAttr, IPart.cells, h0']
  · have h0' : ¬ ((p.b.length : Int) = 0) := by omega
    simp only [partOk, Bool.or_eq_true, decide_eq_true_eq, hasN, Bool.and_eq_true, h0, false_or] at hok
    obtain ⟨⟨⟨k1, k2⟩, k3⟩, k4⟩ := hok
    have q1 : (p.at_.toNat : Int) ≥ 2147483648 := by omega
    have q2 : (p.b.length : Int) ≤ n := by omega
    have hs := sub_base p.at_ k3
    have q3 : ((p.at_.toNat - 2147483648 : Nat) : Int) ≤ (n : Int) - (p.b.length : Int) := by omega
    have q4 : (p.at_.toNat : Int) - 2147483648 ≤ (n : Int) - (p.b.length : Int) := by omega
    refine Spec.is C87ok rfl ?_
    simp only [push_cast, simprocAttr, IPart.cells, h0']
    rw [hs, wrap_i64 (by omega) (by omega), decide_eq_true q1, decide_eq_true q2, decide_eq_true q3]; rfl
theorem iCheck_spec (l : List IPart) (n : Nat) (hn : n ≤ 65536) (hl : l.length ≤ 1000) (hlo : longN l = false) (hok : ∀ p ∈ l, partOk n p = true) : Spec Tryz.prog G 64 [.ro (partC l) l.length, .int .i64 n] h (Is (.int .i64 0) h) := by
  refine Spec.is C64ok rfl ?_
  simp only [push_cast, simprocAttr]
  refine (iLong_spec (G := G) l hl hlo).to ?_
  simp only [push_cast, simprocAttr]
  refine lpc.rel [1, 9, 10, 11] (fun m ρ h' => ∃ k : Nat, m = l.length - k ∧ k ≤ l.length ∧ h = h' ∧ ρ = [(1, .int .i64 (n : Nat)), (9, .ro (partC l) l.length), (10, .int .i64 (l.length : Nat)), (11, .int .i64 (k : Int))]) ⟨_, 0, rfl, by omega, rfl, rfl⟩ ?_
  rintro m _ _ ⟨k, rfl, hk, rfl, rfl⟩
  by_cases hk2 : k < l.length
  · have hp := part_p l k
    rw [if_pos hk2] at hp
    have hpk : partOk n (l.getD k IPart.zero) = true := by
      have : l.getD k IPart.zero = l[k] := by simp [hk2]
      rw [this]; exact hok _ (List.getElem_mem _)
    generalize hgp : l.getD k IPart.zero = p at *
    have hsp : splice [.int .u32 0, .nils] 0 p.cells = p.cells := rfl
    have hpp : partOf p.cells 0 (some 2) = some (.agg p.cells) := rfl
    have hI := inside_spec (G := G) (h := h) p n hn hpk
    simp (disch := omega) only [push_cast, simprocAttr, wrap_i64, toNat_ofInt64, Nat.min_eq_left, Int.toNat_of_nonneg, hk2, hp, hsp, hpp]
    intro c hc
    rw [era_none hc]
    refine hI.to ?_
    simp (disch := omega) only [push_cast, simprocAttr, wrap_i64, toNat_ofInt64, Nat.min_eq_left, Int.toNat_of_nonneg]
    exact ⟨_, _, by omega, .refl _, k + 1, rfl, by omega, rfl, rfl⟩
  · obtain rfl : k = l.length := by omega
    have q : ¬ (l.length < l.length) := by omega
    simp only [push_cast, simprocAttr, q]
theorem Size_spec {l : Pl} {M : IRam} (hr : RamAt h l M) : Spec Tryz.prog G 65 [.ptr l.p 0] h (Is (.int .i64 (M.b.length : Nat)) h) := by
  have hp := hr.hp
  refine Spec.is C65ok rfl ?_
  simp only [push_cast, simprocAttr, hp]
/-- Memory with parts laid. -/
def IRam.putP (M : IRam) (p : IPart) : IRam := M.fill p.at_ p.b
theorem fill_putP (M : IRam) (p : IPart) (h : partOk M.b.length p = true) : M.putP p = { M with b := Ab.putP M.b p } := by
  rw [IRam.putP, IRam.fill, Ab.putP]
  by_cases h0 : p.b.length = 0
  · rw [if_neg (fun q => q.1 h0), if_pos h0]
  · rw [partOk, decide_eq_false h0, Bool.false_or] at h
    rw [if_pos ⟨h0, h⟩, if_neg h0]; rfl
def IRam.layP (M : IRam) (l : List IPart) : IRam := { M with b := layN M.b l }
theorem layP_step (M : IRam) (l : List IPart) (k : Nat) (hk : k < l.length) (hok : ∀ p ∈ l, partOk M.b.length p = true) : (M.layP (l.take k)).fill (l.getD k IPart.zero).at_ (l.getD k IPart.zero).b = M.layP (l.take (k + 1)) := by
  have hlen := lay_len (l.take k) M.b (fun p hp => hok p (List.mem_of_mem_take hp))
  have hm : l.getD k IPart.zero = l[k] := by simp [hk]
  have := fill_putP (M.layP (l.take k)) (l.getD k IPart.zero) (by show partOk (layN M.b (l.take k)).length _ = true; rw [hlen, hm]; exact hok _ (List.getElem_mem _))
  rw [IRam.putP] at this
  rw [this, IRam.layP, IRam.layP, lay_step l M.b k hk]
theorem iLay_spec {pl : Pl} {M : IRam} (hr : RamAt h pl M) (l : List IPart) (hl : l.length ≤ 1000) (hlo : longN l = false) (hok : ∀ p ∈ l, partOk M.b.length p = true) : Spec Tryz.prog G 37 [.ptr pl.p 0, .ro (partC l) l.length] h (RamTo pl (M.layP l) (.int .i64 0) h) := by
  have hw := hr.wf
  unfold IRam.wf at hw
  have hl2 : cutS l l.length ≤ 65536 := by simpa [longN] using hlo
  refine Spec.walk C37ok rfl ?_
  simp only [push_cast, simprocAttr]
  refine (Size_spec (G := G) hr).to ?_
  simp only [push_cast, simprocAttr]
  refine (iCheck_spec (G := G) l M.b.length (by omega) hl hlo hok).to ?_
  simp only [push_cast, simprocAttr]
  refine lpc.rel [0, 17, 18, 19] (fun m ρ h' => ∃ k : Nat, m = l.length - k ∧ k ≤ l.length ∧ RamAt h' pl (M.layP (l.take k)) ∧ (∀ c, ¬ pl.has c → h' c = h c) ∧ ρ = [(0, .ptr pl.p 0), (17, .ro (partC l) l.length), (18, .int .i64 (l.length : Nat)), (19, .int .i64 (k : Int))]) ⟨_, 0, rfl, by omega, hr, fun _ _ => rfl, rfl⟩ ?_
  rintro m _ h' ⟨k, rfl, hk, hr2, ho2, rfl⟩
  by_cases hk2 : k < l.length
  · have hp := part_p l k
    rw [if_pos hk2] at hp
    have hst := layP_step M l k hk2 hok
    have hbl := (cutS_get l k hk2 hl2).1
    generalize hgp : l.getD k IPart.zero = p at *
    have hsp : splice [.int .u32 0, .nils] 0 p.cells = p.cells := rfl
    have h0 : p.cells[0]? = some (.int .u32 (p.at_.toNat : Int)) := rfl
    have h1 : p.cells[1]? = some (byt p.b) := rfl
    have hF := Fill_spec (G := G) hr2 p.at_ p.b (by omega)
    rw [hst] at hF
    simp (disch := omega) only [push_cast, simprocAttr, wrap_i64, toNat_ofInt64, Nat.min_eq_left, Int.toNat_of_nonneg, hk2, hp, hsp, h0, h1]
    intro c hc
    rw [era_none hc]
    refine hF.mono ?_
    rintro _ h3 ⟨rfl, hr3, ho3⟩
    simp (disch := omega) only [push_cast, simprocAttr, wrap_i64, toNat_ofInt64, Nat.min_eq_left, Int.toNat_of_nonneg]
    exact ⟨_, _, by omega, .refl _, k + 1, rfl, by omega, hr3, fun c hc => (ho3 c hc).trans (ho2 c hc), rfl⟩
  · obtain rfl : k = l.length := by omega
    have q : ¬ (l.length < l.length) := by omega
    rw [List.take_length] at hr2
    simp only [push_cast, simprocAttr, q]
    exact ⟨rfl, hr2, ho2⟩
end Go.Ab
end
section
/- A new machine: the program's. -/
set_option linter.unusedSimpArgs false
set_option linter.unusedVariables false
set_option maxRecDepth 10000
namespace Go.Ab
open Go.Proofs
variable {G : Glo} {h : Heap}
theorem own_new2 {sz : Nat} {b : Nat} (hb : h b = none) : Own sz h (.sl b 0 0 0) [] 0 (upd h b ⟨[], 0⟩) := .row b 0 0 [] [] 0 hb (by simp) (by simp)
theorem cloneA_own (l : List IArr) (hl : l.length ≤ 1000000000000) : Spec Tryz.prog G 67 [arrs l] h (fun r h' => Own 2 h r (arrC l) l.length h') := by
  refine Spec.walk C67ok rfl ?_
  simp only [push_cast, simprocAttr]
  have hn := arrC_len l
  refine ⟨fun h0 => ?_, fun b hb => ?_⟩
  · have : l = [] := List.eq_nil_of_length_eq_zero h0
    subst this
    exact .nil
  · refine ⟨hn, Own.app (own_new2 hb) (m := l.length) hn (by omega) (by omega) fun v h1 ho => ?_⟩
    rw [List.nil_append, Nat.zero_add] at ho
    simp only [push_cast, simprocAttr]
    exact ho
theorem cloneA_spec (l : List IArr) (hl : l.length ≤ 1000000000000) : Spec Tryz.prog G 67 [arrs l] h (Is (arrs l) h) :=
  Spec.weak (cloneA_own l hl) fun _ _ ho => ⟨_, _, ⟨rfl, rfl⟩, ho.freeze⟩
def One (h : Heap) (x : Blk) (r : AV) (h' : Heap) : Prop := ∃ b, h b = none ∧ r = .ptr b 0 ∧ h' = upd h b x
def fifo0 : List AV := bys (List.replicate 16 0#8) ++ [.int .i64 0, .int .i64 0]
theorem fifo0_eq : fifo0 = [.int .u8 0, .int .u8 0, .int .u8 0, .int .u8 0, .int .u8 0, .int .u8 0, .int .u8 0, .int .u8 0, .int .u8 0, .int .u8 0, .int .u8 0, .int .u8 0, .int .u8 0, .int .u8 0, .int .u8 0, .int .u8 0, .int .i64 0, .int .i64 0] := rfl
theorem fifoNew_spec : Spec Tryz.prog G 68 [] h (One h ⟨fifo0, 0⟩) := by
  rw [fifo0_eq]
  refine Spec.walk C68ok rfl ?_
  simp only [push_cast, simprocAttr]
  intro b hb
  exact ⟨b, hb, rfl, rfl⟩
theorem timNew_spec : Spec Tryz.prog G 40 [] h (One h ⟨ITim.cells ⟨0, neverB, false⟩, 0⟩) := by
  have e : ITim.cells ⟨0, neverB, false⟩ = [.int .u64 0, .int .u64 18446744073709551615, .bool false] := rfl
  rw [e]
  refine Spec.walk C40ok rfl ?_
  simp only [push_cast, simprocAttr]
  intro b hb
  exact ⟨b, hb, rfl, rfl⟩
theorem csrNew_spec : Spec Tryz.prog G 41 [] h (Is (.agg [.int .u32 6144, .int .u32 0, .int .u32 0, .int .u32 0, .int .u32 0, .int .u32 0, .int .u32 0, .int .u64 0, .int .u64 0]) h) := by
  refine Spec.is C41ok rfl ?_
  simp only [push_cast, simprocAttr]
  intro c hc
  exact (Sub.refl h).alloc hc
def Two (h : Heap) (x : Blk) (r : AV) (h' : Heap) : Prop := ∃ b, h b = none ∧ r = .tup [.ptr b 0, .int .i64 0] ∧ h' = upd h b x
theorem busNew_spec (a b c : Nat) : Spec Tryz.prog G 39 [.ptr a 0, .ptr b 0, .ptr c 0] h (Two h ⟨[.ptr a 0, .ptr b 0, .ptr c 0, .bool false, .int .u32 0], 0⟩) := by
  refine Spec.walk C39ok rfl ?_
  simp only [push_cast, simprocAttr]
  intro b hb
  exact ⟨b, hb, rfl, rfl⟩
def ConNew (h : Heap) (l : List IArr) (r : AV) (h' : Heap) : Prop := ∃ con fifo, h fifo = none ∧ h con = none ∧ con ≠ fifo ∧ r = .tup [.ptr con 0, .int .i64 0] ∧ h' = upd (upd h fifo ⟨fifo0, 0⟩) con ⟨[arrs l, .int .i64 0, .ptr fifo 0, .bool false, .nils], 0⟩
theorem conNew_spec (l : List IArr) (hr : rightA l = 0) : Spec Tryz.prog G 38 [arrs l] h (ConNew h l) := by
  have hb : ¬ 256 < l.length := fun q => by rw [rightA, if_pos q] at hr; cases hr
  rw [rightA, if_neg hb] at hr
  have hall : ∀ i, i < l.length → riseN l i = true := by
    cases ha : allN l.length (riseN l) with
    | true => exact fun i hi => allN_get ha i hi
    | false => rw [ha] at hr; cases hr
  have q0 : ¬ ((l.length : Int) > 256) := by omega
  refine Spec.walk C38ok rfl ?_
  simp only [push_cast, simprocAttr, q0]
  refine lpc.rel [0, 9, 10] (fun m ρ h' => ∃ k : Nat, m = l.length - k ∧ k ≤ l.length ∧ h = h' ∧ ρ = [(0, arrs l), (9, .int .i64 (l.length : Nat)), (10, .int .i64 (k : Int))]) ⟨_, 0, rfl, by omega, rfl, rfl⟩ ?_
  rintro m _ _ ⟨k, rfl, hk, rfl, rfl⟩
  by_cases hk2 : k < l.length
  · by_cases hk0 : k = 0
    · have q1 : ¬ ((k : Int) > 0) := by omega
      simp (disch := omega) only [push_cast, simprocAttr, wrap_i64, toNat_ofInt64, Nat.min_eq_left, Int.toNat_of_nonneg, hk2, q1]
      exact ⟨_, _, by omega, .refl _, k + 1, rfl, by omega, rfl, rfl⟩
    · obtain ⟨j, hkj⟩ : ∃ j, k = j + 1 := ⟨k - 1, by omega⟩
      have hR := hall k hk2
      rw [riseN, decide_eq_false hk0, Bool.false_or, show k - 1 = j by omega] at hR
      have hR := of_decide_eq_true hR
      have hj : j < l.length := by omega
      have q1 : (k : Int) > 0 := by omega
      have ew : IntKind.i64.wrap ((k : Int) - 1) = (j : Int) := by rw [wrap_i64 (by omega) (by omega)]; omega
      have ew2 : IntKind.i64.wrap ((k : Int) + 1) = ((k + 1 : Nat) : Int) := by rw [wrap_i64 (by omega) (by omega)]; omega
      generalize hg1 : l.getD j IArr.zero = a1 at *
      generalize hg2 : l.getD k IArr.zero = a2 at *
      have hlt : ¬ (a2.tick.toNat < a1.tick.toNat) := by omega
      simp only [push_cast, simprocAttr, hk2, hj, q1, ew, ew2, hg1, hg2, hlt]
      exact ⟨_, _, by omega, .refl _, k + 1, rfl, by omega, rfl, rfl⟩
  · obtain rfl : k = l.length := by omega
    have q : ¬ (l.length < l.length) := by omega
    simp only [push_cast, simprocAttr, q]
    refine (cloneA_spec (G := G) l (by omega)).to ?_
    simp only [push_cast, simprocAttr]
    refine (fifoNew_spec (G := G)).mono ?_
    rintro _ _ ⟨f, hf, rfl, rfl⟩
    simp only [push_cast, simprocAttr]
    intro c hc
    have hne : c ≠ f := fun e => by rw [e, upd_same] at hc; cases hc
    rw [upd_ne hne] at hc
    exact ⟨c, f, hf, hc, hne, rfl, rfl⟩
end Go.Ab
end
section
/- A new machine: where it lies. -/
set_option linter.unusedSimpArgs false
set_option linter.unusedVariables false
set_option maxRecDepth 10000
namespace Go.Ab
open Go.Proofs
variable {G : Glo} {h : Heap}
/-- A machine that was not there. -/
def Born (h : Heap) (C : ICpu) (M : IRam) (l : Plc) (h' : Heap) : Prop := MachAt h' l C M ∧ (∀ d, l.has d → h d = none) ∧ ∀ d, ¬ l.has d → h' d = h d
theorem upd_no2 {H : Heap} {c d : Nat} {X : Blk} (h : upd H c X d = none) : d ≠ c ∧ H d = none := by
  by_cases e : d = c
  · rw [e, upd_same] at h; cases h
  · rw [upd_ne e] at h; exact ⟨e, h⟩
theorem born_new {h2 : Heap} {pl : Pl} {M : IRam} (n : Nat) (parts : List IPart) (input : List IArr) (hr : RamAt h2 pl M) (hM : M.b = layN (List.replicate n 0#8) parts) (hl : input.length ≤ 256) (hf : ∀ c, pl.has c → h c = none) (ho : ∀ c, ¬ pl.has c → h2 c = h c)
    {fifo con tim bus p : Nat} (hff : h2 fifo = none) (hfc : h2 con = none) (hcf : con ≠ fifo) (H3 H4 H5 H6 : Heap) (e3 : H3 = upd (upd h2 fifo ⟨fifo0, 0⟩) con ⟨[arrs input, .int .i64 0, .ptr fifo 0, .bool false, .nils], 0⟩) (hft : H3 tim = none)
    (e4 : H4 = upd H3 tim ⟨ITim.cells ⟨0, neverB, false⟩, 0⟩) (hfb : H4 bus = none) (e5 : H5 = upd H4 bus ⟨[.ptr pl.p 0, .ptr con 0, .ptr tim 0, .bool false, .int .u32 0], 0⟩) (hfp : H5 p = none) (e6 : H6 = upd H5 p ⟨cpuC (newC n parts input) bus .nils, 0⟩) :
    Born h (newC n parts input) M ⟨p, bus, con, fifo, tim, pl, none, none⟩ H6 := by
  have np : ∀ d, h2 d = none → ¬ pl.has d := fun d hd => hr.not hd
  rw [e5] at hfp
  obtain ⟨pb, hfp⟩ := upd_no2 hfp
  rw [e4] at hfb hfp
  obtain ⟨bt, hfb⟩ := upd_no2 hfb
  obtain ⟨pt, hfp⟩ := upd_no2 hfp
  rw [e3] at hft hfb hfp
  obtain ⟨tc, hft⟩ := upd_no2 hft
  obtain ⟨bc, hfb⟩ := upd_no2 hfb
  obtain ⟨pc, hfp⟩ := upd_no2 hfp
  obtain ⟨tf, hft⟩ := upd_no2 hft
  obtain ⟨bf, hfb⟩ := upd_no2 hfb
  obtain ⟨pf, hfp⟩ := upd_no2 hfp
  have n1 := np _ hff
  have n2 := np _ hfc
  have n3 := np _ hft
  have n4 := np _ hfb
  have n5 := np _ hfp
  have hv : ∀ d, d ≠ p → d ≠ bus → d ≠ tim → d ≠ con → d ≠ fifo → H6 d = h2 d := fun d a1 a2 a3 a4 a5 => by
    rw [e6, upd_ne a1, e5, upd_ne a2, e4, upd_ne a3, e3, upd_ne a4, upd_ne a5]
  have hpl : ∀ d, pl.has d → H6 d = h2 d := fun d hd => hv d (fun e => n5 (e ▸ hd)) (fun e => n4 (e ▸ hd)) (fun e => n3 (e ▸ hd)) (fun e => n2 (e ▸ hd)) (fun e => n1 (e ▸ hd))
  have hok := hr.ok
  refine ⟨⟨?_, ?_, ?_, ?_, ?_, ?_, ?_, hM, hl, Nat.zero_le _⟩, ?_, ?_⟩
  · simp only [Pl.has, not_or] at n1 n2 n3 n4 n5
    have o := hok.pb
    simp only [Plc.l, Option.toList, List.append_nil, List.nodup_cons, List.mem_cons, List.not_mem_nil, or_false, not_or, List.nodup_nil, and_true, not_false_eq_true]
    exact ⟨⟨pb, pc, pf, pt, n5⟩, ⟨bc, bf, bt, n4⟩, ⟨hcf, Ne.symm tc, n2⟩, ⟨Ne.symm tf, n1⟩, n3, ⟨hok.pb, hok.pw, hok.pg⟩, ⟨hok.bw, hok.bg⟩, hok.wg⟩
  · exact ⟨.nils, by rw [e6]; exact upd_same _ _ _, rfl, rfl, rfl⟩
  · show H6 bus = _
    rw [e6, upd_ne (Ne.symm pb), e5]; exact upd_same _ _ _
  · refine ⟨.nils, ?_, rfl, rfl, rfl⟩
    show H6 con = _
    rw [e6, upd_ne (Ne.symm pc), e5, upd_ne (Ne.symm bc), e4, upd_ne (Ne.symm tc), e3]; exact upd_same _ _ _
  · refine ⟨List.replicate 16 0#8, 0, 0, ?_, by simp, by omega, by omega, rfl⟩
    show H6 fifo = _
    rw [e6, upd_ne (Ne.symm pf), e5, upd_ne (Ne.symm bf), e4, upd_ne (Ne.symm tf), e3, upd_ne (Ne.symm hcf)]; exact upd_same _ _ _
  · show H6 tim = _
    rw [e6, upd_ne (Ne.symm pt), e5, upd_ne (Ne.symm bt), e4]; exact upd_same _ _ _
  · exact ⟨hok, hr.wf, by rw [hpl _ (.inl rfl)]; exact hr.hp, by rw [hpl _ (.inr (.inl rfl))]; exact hr.hb, by rw [hpl _ (.inr (.inr (.inl rfl)))]; exact hr.hw, by rw [hpl _ (.inr (.inr (.inr rfl)))]; exact hr.hg⟩
  · intro d hd
    simp only [Plc.has, Plc.l, Option.toList, List.append_nil, List.mem_cons, List.not_mem_nil, or_false] at hd
    have ho' : ∀ d, h2 d = none → h d = none := fun d hd => by rw [← ho d (np d hd)]; exact hd
    rcases hd with rfl | rfl | rfl | rfl | rfl | hd
    · exact ho' _ hfp
    · exact ho' _ hfb
    · exact ho' _ hfc
    · exact ho' _ hff
    · exact ho' _ hft
    · exact hf d hd
  · intro d hd
    simp only [Plc.has, Plc.l, Option.toList, List.append_nil, List.mem_cons, List.not_mem_nil, or_false, not_or] at hd
    obtain ⟨d1, d2, d3, d4, d5, d6⟩ := hd
    rw [hv d d1 d2 d5 d3 d4]
    exact ho d (by simp only [Pl.has, not_or]; exact d6)
end Go.Ab
end
section
/- A new machine, and one that begins anywhere: the program's. -/
set_option linter.unusedSimpArgs false
set_option linter.unusedVariables false
set_option maxRecDepth 10000
namespace Go.Ab
open Go.Proofs
variable {G : Glo} {h : Heap}
/-- What a machine may begin with. -/
structure Goes (n : Nat) (parts : List IPart) (input : List IArr) : Prop where
  hn : rightN n = true
  hl : parts.length ≤ 1000
  hlo : longN parts = false
  hok : ∀ p ∈ parts, partOk n p = true
  hi : rightA input = 0
def CpuNew (h : Heap) (n : Nat) (parts : List IPart) (input : List IArr) (r : AV) (h' : Heap) : Prop := ∃ l : Plc, r = .tup [.ptr l.p 0, .int .i64 0] ∧ (l.ob = none ∧ l.eb = none) ∧ Born h (newC n parts input) ((IRam.new n).layP parts) l h'
theorem cpuNew_spec {n : Nat} {parts : List IPart} {input : List IArr} (hg : Goes n parts input) : Spec Tryz.prog G 17 [.int .i64 n, .ro (partC parts) parts.length, arrs input] h (CpuNew h n parts input) := by
  obtain ⟨hn, hl, hlo, hok, hi⟩ := hg
  have hin : input.length ≤ 256 := by
    rw [rightA] at hi; split at hi
    · cases hi
    · omega
  have hM : ((IRam.new n).layP parts).b = layN (List.replicate n 0#8) parts := rfl
  have hlen : (IRam.new n).b.length = n := by simp [IRam.new]
  refine Spec.walk C17ok rfl ?_
  simp only [push_cast, simprocAttr]
  refine (New_spec (G := G) n hn).mono ?_
  rintro _ h1 ⟨pl, rfl, hr1, hf1, ho1⟩
  simp only [push_cast, simprocAttr]
  refine (iLay_spec (G := G) hr1 parts hl hlo (by rw [hlen]; exact hok)).mono ?_
  rintro _ h2 ⟨rfl, hr2, ho2⟩
  have ho : ∀ c, ¬ pl.has c → h2 c = h c := fun c hc => (ho2 c hc).trans (ho1 c hc)
  simp only [push_cast, simprocAttr]
  refine (conNew_spec (G := G) input hi).mono ?_
  rintro _ H3 ⟨con, fifo, hff, hfc, hcf, rfl, e3⟩
  simp only [push_cast, simprocAttr]
  refine (timNew_spec (G := G)).mono ?_
  rintro _ H4 ⟨tim, hft, rfl, e4⟩
  simp only [push_cast, simprocAttr]
  refine (busNew_spec (G := G) pl.p con tim).mono ?_
  rintro _ H5 ⟨bus, hfb, rfl, e5⟩
  simp only [push_cast, simprocAttr]
  refine (csrNew_spec (G := G)).to ?_
  simp only [push_cast, simprocAttr]
  intro p hp
  refine ⟨_, ?_, ⟨rfl, rfl⟩, born_new n parts input hr2 hM hin hf1 ho hff hfc hcf H3 H4 H5 _ e3 hft e4 hfb e5 hp rfl⟩
  rfl
theorem Parts_own (l : List IPart) (hl : l.length ≤ 1000) : Spec Tryz.prog G 22 [.ro (partC l) l.length] h (fun r h' => Own 2 h r (partC l) l.length h') := by
  refine Spec.walk C22ok rfl ?_
  simp only [push_cast, simprocAttr]
  intro c hc
  have o0 : Own 2 h (.sl c 0 0 0) (partC (l.take 0)) 0 (upd h c ⟨[], 0⟩) := own_new2 hc
  refine lpc.rel [0, 3, 4] (fun m ρ H => ∃ (k : Nat) (v : AV), m = l.length - k ∧ k ≤ l.length ∧ Own 2 h v (partC (l.take k)) k H ∧ ρ = [(0, .ro (partC l) l.length), (3, v), (4, .int .i64 (k : Int))]) ⟨_, 0, _, rfl, by omega, o0, rfl⟩ ?_
  rintro m _ H ⟨k, v, rfl, hk, ho, rfl⟩
  by_cases hk2 : k < l.length
  · have e : partC (l.take (k + 1)) = partC (l.take k) ++ (l.getD k IPart.zero).cells := by
      rw [List.take_succ_eq_append_getElem hk2, partC, List.flatMap_append]
      simp [partC, hk2]
    generalize hgp : l.getD k IPart.zero = p at *
    simp only [push_cast, simprocAttr, hk2, hgp]
    refine ho.app (m := 1) rfl (by omega) (by omega) fun v2 h2 ho2 => ?_
    have e' : partC (l.take k) ++ [.int .u32 (p.at_.toNat : Int), .ro (bys p.b) p.b.length] = partC (l.take (k + 1)) := e.symm
    rw [e'] at ho2
    simp (disch := omega) only [push_cast, simprocAttr, wrap_i64, toNat_ofInt64, Nat.min_eq_left, Int.toNat_of_nonneg]
    exact ⟨_, _, by omega, .refl _, k + 1, v2, rfl, by omega, ho2, rfl⟩
  · obtain rfl : k = l.length := by omega
    have q : ¬ (l.length < l.length) := by omega
    rw [List.take_length] at ho
    simp only [push_cast, simprocAttr, q]
    exact ho
theorem Parts_spec (l : List IPart) (hl : l.length ≤ 1000) : Spec Tryz.prog G 22 [.ro (partC l) l.length] h (Is (.ro (partC l) l.length) h) :=
  Spec.weak (Parts_own l hl) fun _ _ ho => ⟨_, _, ⟨rfl, rfl⟩, ho.freeze⟩
/-- What a right beginning is. -/
theorem ISt.goes {s : ISt} (hr : s.right = true) (hl : s.parts.length ≤ 1000) : ∃ n : Nat, s.size = n ∧ Goes n s.parts s.input := by
  simp only [ISt.right, Bool.and_eq_true, decide_eq_true_eq] at hr
  obtain ⟨⟨⟨hw, _⟩, _⟩, _⟩ := hr
  rw [whyN] at hw
  cases hn : rightN s.size with
  | false => rw [hn] at hw; cases hw
  | true =>
    rw [hn, if_pos rfl] at hw
    have hn' := hn
    simp only [rightN, Bool.and_eq_true, decide_eq_true_eq] at hn'
    obtain ⟨n, hnn⟩ : ∃ n : Nat, s.size = n := ⟨s.size.toNat, by omega⟩
    rw [hnn, Int.toNat_natCast] at hw
    by_cases hc : checkP s.parts n = 0
    · rw [if_pos hc] at hw
      have hc' := hc
      rw [checkP] at hc
      cases hlo : longN s.parts with
      | true => rw [hlo, if_pos rfl] at hc; cases hc
      | false =>
        rw [hlo, if_neg (by simp)] at hc
        have ha : (allN s.parts.length fun i => partOk n (s.parts.getD i IPart.zero)) = true := by
          cases h : (allN s.parts.length fun i => partOk n (s.parts.getD i IPart.zero)) with
          | true => rfl
          | false => rw [h] at hc; cases hc
        refine ⟨n, hnn, hnn ▸ hn, hl, hlo, fun p hp => ?_, hw⟩
        obtain ⟨i, hi, rfl⟩ := List.getElem_of_mem hp
        have := allN_get ha i hi
        simpa [hi] using this
    · rw [if_neg hc] at hw
      exact absurd hw hc
end Go.Ab
end
section
/- A machine whose own words, or timer, are written. -/
set_option linter.unusedSimpArgs false
set_option linter.unusedVariables false
set_option maxRecDepth 10000
namespace Go.Ab
open Go.Proofs
variable {G : Glo} {h : Heap}
section
variable {H : Heap} {l : Plc} {c : ICpu} {M : IRam}
theorem RowAt.same {sz n : Nat} {H H' : Heap} {v : AV} {cells : List AV} {o : Option Nat} (hr : RowAt sz H v cells n o) (h : ∀ d, o = some d → H' d = H d) : RowAt sz H' v cells n o := by
  cases o with
  | none => exact hr
  | some b =>
    obtain ⟨pre, cap, sp, h1, h2, h3, h4⟩ := hr
    exact ⟨pre, cap, sp, h1, by rw [h b rfl]; exact h2, h3, h4⟩
theorem Plc.nd {l : Plc} (h : l.l.Nodup) : (∀ d, l.has d → d = l.p ∨ d = l.bus ∨ d = l.con ∨ d = l.fifo ∨ d = l.tim ∨ l.ram.has d ∨ l.ob = some d ∨ l.eb = some d) ∧
    (l.p ≠ l.bus ∧ l.p ≠ l.con ∧ l.p ≠ l.fifo ∧ l.p ≠ l.tim ∧ (∀ d, l.ram.has d → d ≠ l.p) ∧ (∀ d, l.ob = some d → d ≠ l.p) ∧ (∀ d, l.eb = some d → d ≠ l.p)) ∧
    (l.tim ≠ l.bus ∧ l.tim ≠ l.con ∧ l.tim ≠ l.fifo ∧ (∀ d, l.ram.has d → d ≠ l.tim) ∧ (∀ d, l.ob = some d → d ≠ l.tim) ∧ (∀ d, l.eb = some d → d ≠ l.tim)) ∧
    (∀ d, l.ram.has d → d ≠ l.bus ∧ d ≠ l.con ∧ d ≠ l.fifo ∧ (∀ e, l.ob = some e → e ≠ d) ∧ (∀ e, l.eb = some e → e ≠ d)) := by
  obtain ⟨p, bus, con, fifo, tim, ⟨r1, r2, r3, r4⟩, ob, eb⟩ := l
  simp only [Plc.l, List.nodup_cons, List.mem_cons, List.mem_append, List.cons_append, List.nil_append, List.not_mem_nil, or_false, not_or, Option.mem_toList, Option.toList] at h
  refine ⟨?_, ?_, ?_, ?_⟩
  · intro d hd
    simp only [Plc.has, Plc.l, List.mem_cons, List.mem_append, List.cons_append, List.nil_append, List.not_mem_nil, or_false, Option.mem_toList] at hd
    simp only [Pl.has]
    grind
  · simp only [Pl.has]
    grind
  · simp only [Pl.has]
    grind
  · simp only [Pl.has]
    grind
theorem RamAt.same {H H' : Heap} {pl : Pl} {M : IRam} (hr : RamAt H pl M) (h : ∀ d, pl.has d → H' d = H d) : RamAt H' pl M :=
  ⟨hr.ok, hr.wf, by rw [h _ (.inl rfl)]; exact hr.hp, by rw [h _ (.inr (.inl rfl))]; exact hr.hb, by rw [h _ (.inr (.inr (.inl rfl)))]; exact hr.hw, by rw [h _ (.inr (.inr (.inr rfl)))]; exact hr.hg⟩
theorem MachAt.setC {c' : ICpu} {v : AV} (hm : MachAt H l c M) (hv : H l.p = some ⟨cpuC c l.bus v, 0⟩) (hb : c'.bus = c.bus) (he : c'.ev = c.ev) : MachAt (upd H l.p ⟨cpuC c' l.bus v, 0⟩) l c' M := by
  obtain ⟨v0, hc, hrow⟩ := hm.hc
  have e : v0 = v := by
    rw [hc] at hv
    injection hv with e1
    injection e1 with e2
    have := congrArg (fun x : List AV => x[45]?) e2
    simp only [cpb_45] at this
    exact Option.some.inj this
  subst e
  obtain ⟨_, ⟨q1, q2, q3, q4, q5, q6, q7⟩, _, _⟩ := Plc.nd hm.nd
  have ne : ∀ d, d ≠ l.p → upd H l.p ⟨cpuC c' l.bus v0, 0⟩ d = H d := fun d hd => upd_ne hd
  refine ⟨hm.nd, ⟨v0, upd_same _ _ _, ?_⟩, ?_, ?_, ?_, ?_, ?_, ?_, ?_, ?_⟩
  · rw [he]; exact hrow.same fun d hd => ne d (q7 d hd)
  · rw [hb, ne _ (Ne.symm q1)]; exact hm.hb
  · obtain ⟨v1, h1, h2⟩ := hm.hn
    rw [hb]; exact ⟨v1, by rw [ne _ (Ne.symm q2)]; exact h1, h2.same fun d hd => ne d (q6 d hd)⟩
  · obtain ⟨b, f, n, h1, h2⟩ := hm.hf
    rw [hb]; exact ⟨b, f, n, by rw [ne _ (Ne.symm q3)]; exact h1, h2⟩
  · rw [hb, ne _ (Ne.symm q4)]; exact hm.ht
  · exact hm.hr.same fun d hd => ne d (q5 d hd)
  · rw [hb]; exact hm.hm
  · rw [hb]; exact hm.hl
  · rw [hb]; exact hm.came
theorem MachAt.setT (hm : MachAt H l c M) (t : ITim) : MachAt (upd H l.tim ⟨t.cells, 0⟩) l { c with bus := { c.bus with t := t } } M := by
  obtain ⟨_, ⟨_, _, _, q0, _⟩, ⟨q1, q2, q3, q4, q5, q6⟩, _⟩ := Plc.nd hm.nd
  have ne : ∀ d, d ≠ l.tim → upd H l.tim ⟨t.cells, 0⟩ d = H d := fun d hd => upd_ne hd
  refine ⟨hm.nd, ?_, ?_, ?_, ?_, upd_same _ _ _, ?_, hm.hm, hm.hl, hm.came⟩
  · obtain ⟨v1, h1, h2⟩ := hm.hc
    exact ⟨v1, by rw [ne _ q0]; exact h1, h2.same fun d hd => ne d (q6 d hd)⟩
  · rw [ne _ (Ne.symm q1)]; exact hm.hb
  · obtain ⟨v1, h1, h2⟩ := hm.hn
    exact ⟨v1, by rw [ne _ (Ne.symm q2)]; exact h1, h2.same fun d hd => ne d (q5 d hd)⟩
  · obtain ⟨b, f, n, h1, h2⟩ := hm.hf
    exact ⟨b, f, n, by rw [ne _ (Ne.symm q3)]; exact h1, h2⟩
  · exact hm.hr.same fun d hd => ne d (q4 d hd)
theorem MachAt.setR {H' : Heap} {M' : IRam} (hm : MachAt H l c M) (hr : RamAt H' l.ram M') (ho : ∀ d, ¬ l.ram.has d → H' d = H d) : MachAt H' l { c with bus := { c.bus with b := M'.b } } M' := by
  obtain ⟨_, ⟨_, _, _, _, q1, _⟩, ⟨_, _, _, q2, _⟩, q3⟩ := Plc.nd hm.nd
  refine ⟨hm.nd, ?_, ?_, ?_, ?_, ?_, hr, rfl, hm.hl, hm.came⟩
  · obtain ⟨v1, h1, h2⟩ := hm.hc
    exact ⟨v1, by rw [ho _ (fun e => q1 _ e rfl)]; exact h1, h2.same fun d hd => ho d fun e => (q3 d e).2.2.2.2 d hd rfl⟩
  · rw [ho _ (fun e => (q3 _ e).1 rfl)]; exact hm.hb
  · obtain ⟨v1, h1, h2⟩ := hm.hn
    exact ⟨v1, by rw [ho _ (fun e => (q3 _ e).2.1 rfl)]; exact h1, h2.same fun d hd => ho d fun e => (q3 d e).2.2.2.1 d hd rfl⟩
  · obtain ⟨b, f, n, h1, h2⟩ := hm.hf
    exact ⟨b, f, n, by rw [ho _ (fun e => (q3 _ e).2.2.1 rfl)]; exact h1, h2⟩
  · rw [ho _ (fun e => q2 _ e rfl)]; exact hm.ht
theorem MachAt.same {H' : Heap} (hm : MachAt H l c M) (h : ∀ d, l.has d → H' d = H d) : MachAt H' l c M := by
  have hl : ∀ d, d = l.p ∨ d = l.bus ∨ d = l.con ∨ d = l.fifo ∨ d = l.tim ∨ l.ram.has d ∨ l.ob = some d ∨ l.eb = some d → l.has d := by
    intro d hd
    simp only [Pl.has] at hd
    simp only [Plc.has, Plc.l, List.mem_cons, List.mem_append, List.cons_append, List.nil_append, List.not_mem_nil, or_false, Option.mem_toList]
    grind
  refine ⟨hm.nd, ?_, ?_, ?_, ?_, ?_, ?_, hm.hm, hm.hl, hm.came⟩
  · obtain ⟨v1, h1, h2⟩ := hm.hc
    exact ⟨v1, by rw [h _ (hl _ (by simp))]; exact h1, h2.same fun d hd => h d (hl _ (by simp [hd]))⟩
  · rw [h _ (hl _ (by simp))]; exact hm.hb
  · obtain ⟨v1, h1, h2⟩ := hm.hn
    exact ⟨v1, by rw [h _ (hl _ (by simp))]; exact h1, h2.same fun d hd => h d (hl _ (by simp [hd]))⟩
  · obtain ⟨b, f, n, h1, h2⟩ := hm.hf
    exact ⟨b, f, n, by rw [h _ (hl _ (by simp))]; exact h1, h2⟩
  · rw [h _ (hl _ (by simp))]; exact hm.ht
  · exact hm.hr.same fun d hd => h d (hl _ (by simp [hd]))
end
end Go.Ab
end
section
/- The program's machine that begins anywhere. -/
set_option linter.unusedSimpArgs false
set_option linter.unusedVariables false
set_option maxRecDepth 10000
namespace Go.Ab
open Go.Proofs
variable {G : Glo} {h : Heap}
def Begun (h : Heap) (s : ISt) (n : Nat) (r : AV) (h' : Heap) : Prop := ∃ l : Plc, r = .ptr l.p 0 ∧ (l.ob = none ∧ l.eb = none) ∧ Born h (beginC s n) ((IRam.new n).layP s.parts) l h'
theorem lBegin_spec (s : ISt) (n : Nat) (hs : s.size = n) (hg : Goes n s.parts s.input) : Spec Tryz.prog G 9 [.agg s.cells] h (Begun h s n) := by
  have g0 := ist_0 s
  rw [hs] at g0
  have hR := fun c bus v => cpb_sR c bus v s.regs
  have hk := kp_wds s.k
  have hF : ∀ c bus v, splice (cpuC c bus v) 33 [.int .u32 (s.k.st.toNat : Int), .int .u32 (s.k.ie.toNat : Int), .int .u32 (s.k.tv.toNat : Int), .int .u32 (s.k.sc.toNat : Int), .int .u32 (s.k.ep.toNat : Int), .int .u32 (s.k.ca.toNat : Int), .int .u32 (s.k.tl.toNat : Int), .int .u64 (s.cyc.toNat : Int), .int .u64 (s.ins.toNat : Int)] = cpuC { c with f := s.fl } bus v := fun c bus v => cpb_sf c bus v s.fl
  have hC : beginC s n = { newC n s.parts s.input with pc := s.pc, regs := s.regs, f := s.fl, tick := s.tick, ret := s.ret, bus := { (newC n s.parts s.input).bus with t := s.t } } := rfl
  refine Spec.walk C9ok rfl ?_
  simp only [push_cast, simprocAttr, g0]
  refine (Parts_spec (G := G) s.parts hg.hl).to ?_
  simp only [push_cast, simprocAttr, g0]
  refine (cpuNew_spec (G := G) hg).mono ?_
  rintro _ H ⟨l, rfl, hnn, hm, hf, ho⟩
  generalize newC n s.parts s.input = c at *
  obtain ⟨v, hc, hrow⟩ := hm.hc
  obtain ⟨_, ⟨q1, q2, q3, q4, q5, q6, q7⟩, _, _⟩ := Plc.nd hm.nd
  simp only [push_cast, simprocAttr]
  refine (cBus_spec (G := G) hm).to ?_
  simp only [push_cast, simprocAttr]
  refine (bTimer_spec (G := G) hm).to ?_
  simp only [push_cast, simprocAttr, hc, hR, hF, hk]
  have hm1 := hm.setC (c' := { pc := s.pc, regs := s.regs, f := s.fl, tick := c.tick, ret := c.ret, bus := c.bus, ev := c.ev }) hc rfl rfl
  have ho1 : ∀ d, ¬ l.has d → upd H l.p ⟨cpuC { pc := s.pc, regs := s.regs, f := s.fl, tick := c.tick, ret := c.ret, bus := c.bus, ev := c.ev } l.bus v, 0⟩ d = h d := fun d hd => by
    rw [upd_ne (fun e => hd (by rw [e]; simp [Plc.has, Plc.l]))]; exact ho d hd
  have hp1 := upd_same H l.p ⟨cpuC { pc := s.pc, regs := s.regs, f := s.fl, tick := c.tick, ret := c.ret, bus := c.bus, ev := c.ev } l.bus v, 0⟩
  generalize upd H l.p ⟨cpuC { pc := s.pc, regs := s.regs, f := s.fl, tick := c.tick, ret := c.ret, bus := c.bus, ev := c.ev } l.bus v, 0⟩ = H1 at *
  refine (cBus_spec (G := G) hm1).to ?_
  simp only [push_cast, simprocAttr]
  refine (bTimer_spec (G := G) hm1).to ?_
  have ht1 : H1 l.tim = some ⟨[.int .u64 (c.bus.t.off.toNat : Int), .int .u64 (c.bus.t.mark.toNat : Int), .bool c.bus.t.soft], 0⟩ := hm1.ht
  have hm2 := hm1.setT s.t
  have hp2 : ∀ X, upd H1 l.tim X l.p = some ⟨cpuC { pc := s.pc, regs := s.regs, f := s.fl, tick := c.tick, ret := c.ret, bus := c.bus, ev := c.ev } l.bus v, 0⟩ := fun X => by rw [upd_ne q4]; exact hp1
  have hp3 := hp2 ⟨s.t.cells, 0⟩
  have hm3 := hm2.setC (c' := { pc := s.pc, regs := s.regs, f := s.fl, tick := s.tick, ret := s.ret, bus := { c.bus with t := s.t }, ev := c.ev }) hp3 rfl rfl
  simp only [push_cast, simprocAttr, ht1, hp2]
  refine ⟨l, rfl, hnn, ?_, hf, fun d hd => ?_⟩
  · rw [hC]; exact hm3
  · rw [upd_ne (fun e => hd (by rw [e]; simp [Plc.has, Plc.l])), upd_ne (fun e => hd (by rw [e]; simp [Plc.has, Plc.l]))]; exact ho1 d hd
end Go.Ab
end
