/- The statement ApplyDoesSaid, from the contract of its function. -/
import Derived.Test.YtephiagmompfjaaGreatPD5
import Derived.ProofKit
import Derived.OpenShut
import Derived.ShutString
import Derived.ChangeOld
import Derived.Below
import Derived.Test.YtephiagmompfjaaGreatRows
import Derived.WalkKit
section
/- May a block be done? The program's answer, and the document's. -/
set_option linter.unusedSimpArgs false
set_option linter.unusedVariables false
set_option maxRecDepth 10000
namespace Go.Ab
open Go.Proofs
variable {G : Glo}
theorem check_pcs {b : IBk} (hc : b.check = 0) : 1 ≤ b.pcs.length ∧ b.pcs.length ≤ 32 ∧ b.ops.length ≤ 512 := by
  have hr := hc
  unfold IBk.check at hc
  split at hc
  · cases hc
  · rename_i hl
    simp only [IBk.long, Bool.or_eq_true, decide_eq_true_eq] at hl
    split at hc
    · rename_i h2
      simp only [IBk.right, Bool.and_eq_true, decide_eq_true_eq] at h2
      omega
    · cases hc
/-- May a right block be done? -/
def mayN (c : ICpu) (b : IBk) (fuel : Int) : Bool := !c.bus.off && decide (b.pcs.getD 0 0#32 = c.pc) && decide ((b.pcs.length : Int) ≤ fuel) && decide ((b.pcs.length : Int) ≤ c.quiet)
def askN (c : ICpu) (b : IBk) (fuel : Int) : Int := if b.check ≠ 0 then b.check else if mayN c b fuel then 0 else 4
theorem neq32 (a b : BitVec 32) : ((a.toNat : Int) != (b.toNat : Int)) = decide (a ≠ b) := by
  have := eq32 a b
  rw [bne, this]
  by_cases h : a = b <;> simp [h]
section
variable {H : Heap} {l : Plc} {c : ICpu} {M : IRam} {b : IBk}
theorem askApply_spec (hm : MachAt H l c M) (hw : b.wf) (fuel : Int) : Spec Tryz.prog G 26 [.ptr l.p 0, bkP b, .int .i64 fuel] H (Is (.int .i64 (askN c b fuel)) H) := by
  have hC := Check_spec (G := G) (h := H) b hw
  have hA : askN c b fuel = if b.check ≠ 0 then b.check else if mayN c b fuel then 0 else 4 := rfl
  have hB := cBus_spec (G := G) hm
  have hO := bOff_spec (G := G) hm
  have hQ := quiet_spec (G := G) hm
  have hM : mayN c b fuel = (!c.bus.off && decide (b.pcs.getD 0 0#32 = c.pc) && decide ((b.pcs.length : Int) ≤ fuel) && decide ((b.pcs.length : Int) ≤ c.quiet)) := rfl
  obtain ⟨v, hc, _⟩ := hm.hc
  have hk := @check_pcs b
  generalize askN c b fuel = X at *
  generalize mayN c b fuel = Y at *
  generalize c.quiet = q at *
  generalize b.check = ch at *
  by_cases h0 : ch = 0
  · rw [if_neg (by simp [h0])] at hA
    obtain ⟨k1, k2, k3⟩ := hk h0
    have h0' : (ch != 0) = false := by simp [h0]
    have k1' : 0 < b.pcs.length := k1
    refine Spec.is C26ok rfl ?_
    simp only [push_cast, simprocAttr]
    refine hC.to ?_
    simp only [push_cast, simprocAttr, h0']
    refine hB.to ?_
    simp only [push_cast, simprocAttr]
    refine hO.to ?_
    have k1i : (0 : Int) < (b.pcs.length : Int) := by omega
    have hofi : ((BitVec.ofInt 64 (b.pcs.length : Int)).toNat : Int) = (b.pcs.length : Int) := by rw [BitVec.ofInt_natCast, BitVec.toNat_ofNat]; omega
    have hcv : (BitVec.ofNat 64 b.pcs.length).toNat = b.pcs.length := by rw [BitVec.toNat_ofNat]; omega
    rcases ho : c.bus.off with _ | _
    · rw [ho, Bool.not_false, Bool.true_and] at hM
      by_cases hp : b.pcs.getD 0 0#32 = c.pc
      · rw [decide_eq_true hp, Bool.true_and] at hM
        have hpn : (b.pcs.getD 0 0#32 != c.pc) = false := by rw [hp]; simp
        by_cases hf : (b.pcs.length : Int) ≤ fuel
        · have hf' : ¬ ((b.pcs.length : Int) > fuel) := by omega
          rw [decide_eq_true hf, Bool.true_and] at hM
          simp only [push_cast, simprocAttr, k1', k1i, hc, hpn, hf', hcv]
          refine hQ.to ?_
          by_cases hq : (b.pcs.length : Int) ≤ q
          · have hq' : ¬ ((b.pcs.length : Int) > q) := by omega
            rw [decide_eq_true hq] at hM
            simp only [push_cast, simprocAttr, hq', hcv]
            rw [hA, hM, hofi]
            exact ⟨fun h => absurd h hq', fun _ => rfl⟩
          · have hq' : (b.pcs.length : Int) > q := by omega
            rw [decide_eq_false hq] at hM
            simp only [push_cast, simprocAttr, hq', hcv]
            rw [hA, hM, hofi]
            exact ⟨fun _ => rfl, fun h => absurd hq' h⟩
        · have hf' : (b.pcs.length : Int) > fuel := by omega
          rw [decide_eq_false hf, Bool.false_and] at hM
          simp only [push_cast, simprocAttr, k1', k1i, hc, hpn, hf']
          rw [hA, hM]; rfl
      · rw [decide_eq_false hp, Bool.false_and, Bool.false_and] at hM
        have hpn : (b.pcs.getD 0 0#32 != c.pc) = true := by simpa using hp
        simp only [push_cast, simprocAttr, k1', k1i, hc, hpn]
        rw [hA, hM]; rfl
    · rw [ho, Bool.not_true, Bool.false_and, Bool.false_and, Bool.false_and] at hM
      simp only [push_cast, simprocAttr]
      rw [hA, hM]; rfl
  · rw [if_pos h0] at hA
    have h0' : (ch != 0) = true := by simp [h0]
    refine Spec.is C26ok rfl ?_
    simp only [push_cast, simprocAttr]
    refine hC.to ?_
    simp only [push_cast, simprocAttr, h0']
    rw [hA]
theorem mayA_spec (hm : MachAt H l c M) (hw : b.wf) (fuel : Int) : Spec Tryz.prog G 10 [.ptr l.p 0, bkP b, .int .i64 fuel] H (Is (.bool (askN c b fuel == 0)) H) := by
  have hA := askApply_spec (G := G) hm hw fuel
  refine Spec.is C10ok rfl ?_
  simp only [push_cast, simprocAttr]
  refine hA.to ?_
  simp only [push_cast, simprocAttr]
def out0 : List AV := [.int .u32 0, .int .u32 0, .int .u32 0, .int .u32 0, .int .u32 0, .int .u32 0, .int .u32 0, .int .u32 0, .int .u32 0, .int .u32 0, .int .u32 0, .int .u32 0, .int .u32 0, .int .u32 0, .int .u32 0, .int .u32 0, .int .u32 0, .int .u32 0, .int .u32 0, .int .u32 0, .int .u32 0, .int .u32 0, .int .u32 0, .int .u32 0, .int .u32 0, .int .u32 0, .int .u32 0, .int .u32 0, .int .u32 0, .int .u32 0, .int .u32 0, .int .u32 0, .int .u32 0, .int .i64 0, .int .i64 0, .int .i64 0]
theorem doA_no (hm : MachAt H l c M) (hw : b.wf) (fuel : Int) (hn : askN c b fuel ≠ 0) : Spec Tryz.prog G 11 [.ptr l.p 0, bkP b, .int .i64 fuel] H (Is (.tup [.agg out0, .int .i64 (askN c b fuel)]) H) := by
  have hn' : (askN c b fuel != 0) = true := by simp [hn]
  refine Spec.is C11ok rfl ?_
  simp only [push_cast, simprocAttr]
  intro c6 hc6
  have m6 : upd H c6 ⟨[.int .u32 0, .int .u32 0, .int .u32 0, .int .u32 0, .int .u32 0, .int .u32 0, .int .u32 0, .int .u32 0, .int .u32 0, .int .u32 0, .int .u32 0, .int .u32 0, .int .u32 0, .int .u32 0, .int .u32 0, .int .u32 0, .int .u32 0, .int .u32 0, .int .u32 0, .int .u32 0, .int .u32 0, .int .u32 0, .int .u32 0, .int .u32 0, .int .u32 0, .int .u32 0, .int .u32 0, .int .u32 0, .int .u32 0, .int .u32 0, .int .u32 0, .int .u32 0, .int .u32 0, .int .i64 0, .int .i64 0, .int .i64 0], 0⟩ c6 = some ⟨[.int .u32 0, .int .u32 0, .int .u32 0, .int .u32 0, .int .u32 0, .int .u32 0, .int .u32 0, .int .u32 0, .int .u32 0, .int .u32 0, .int .u32 0, .int .u32 0, .int .u32 0, .int .u32 0, .int .u32 0, .int .u32 0, .int .u32 0, .int .u32 0, .int .u32 0, .int .u32 0, .int .u32 0, .int .u32 0, .int .u32 0, .int .u32 0, .int .u32 0, .int .u32 0, .int .u32 0, .int .u32 0, .int .u32 0, .int .u32 0, .int .u32 0, .int .u32 0, .int .u32 0, .int .i64 0, .int .i64 0, .int .i64 0], 0⟩ := upd_same _ _ _
  have s6 : Sub H (upd H c6 ⟨[.int .u32 0, .int .u32 0, .int .u32 0, .int .u32 0, .int .u32 0, .int .u32 0, .int .u32 0, .int .u32 0, .int .u32 0, .int .u32 0, .int .u32 0, .int .u32 0, .int .u32 0, .int .u32 0, .int .u32 0, .int .u32 0, .int .u32 0, .int .u32 0, .int .u32 0, .int .u32 0, .int .u32 0, .int .u32 0, .int .u32 0, .int .u32 0, .int .u32 0, .int .u32 0, .int .u32 0, .int .u32 0, .int .u32 0, .int .u32 0, .int .u32 0, .int .u32 0, .int .u32 0, .int .i64 0, .int .i64 0, .int .i64 0], 0⟩) := (Sub.refl H).alloc hc6
  have hm6 : MachAt (Ab.upd H c6 ⟨[.int .u32 0, .int .u32 0, .int .u32 0, .int .u32 0, .int .u32 0, .int .u32 0, .int .u32 0, .int .u32 0, .int .u32 0, .int .u32 0, .int .u32 0, .int .u32 0, .int .u32 0, .int .u32 0, .int .u32 0, .int .u32 0, .int .u32 0, .int .u32 0, .int .u32 0, .int .u32 0, .int .u32 0, .int .u32 0, .int .u32 0, .int .u32 0, .int .u32 0, .int .u32 0, .int .u32 0, .int .u32 0, .int .u32 0, .int .u32 0, .int .u32 0, .int .u32 0, .int .u32 0, .int .i64 0, .int .i64 0, .int .i64 0], 0⟩) l c M := hm.upd hc6
  generalize upd H c6 ⟨[.int .u32 0, .int .u32 0, .int .u32 0, .int .u32 0, .int .u32 0, .int .u32 0, .int .u32 0, .int .u32 0, .int .u32 0, .int .u32 0, .int .u32 0, .int .u32 0, .int .u32 0, .int .u32 0, .int .u32 0, .int .u32 0, .int .u32 0, .int .u32 0, .int .u32 0, .int .u32 0, .int .u32 0, .int .u32 0, .int .u32 0, .int .u32 0, .int .u32 0, .int .u32 0, .int .u32 0, .int .u32 0, .int .u32 0, .int .u32 0, .int .u32 0, .int .u32 0, .int .u32 0, .int .i64 0, .int .i64 0, .int .i64 0], 0⟩ = H6 at m6 s6 hm6 ⊢
  refine (askApply_spec (G := G) hm6 hw fuel).to ?_
  generalize askN c b fuel = e at *
  simp only [push_cast, simprocAttr, hn', m6]
  refine ⟨rfl, fun x y hx => ?_⟩
  have hxb : x ≠ c6 := fun e => by rw [e, hc6] at hx; cases hx
  rw [upd_ne hxb]; exact s6 _ _ hx
theorem outC_regs {R : List (BitVec 32)} (hR : R.length = 32) (pc : BitVec 32) (d w x : Int) : List.take 31 (List.take 31 (List.drop 1 (outC R pc d w x))) = wds (R.drop 1) := by
  rw [List.take_take, Nat.min_self, outC, List.drop_append_of_le_length (by simp [wds]; omega), List.take_append_of_le_length (by simp [wds]; omega), List.take_of_length_le (by simp [wds]; omega)]
  simp [wds]
theorem cpb_copy (c : ICpu) (bus : Nat) (v : AV) {R : List (BitVec 32)} (hR : R.length = 32) (h0 : R.getD 0 0#32 = c.regs.toList.getD 0 0#32) : splice (cpuC c bus v) 2 (wds (R.drop 1)) = cpuC { c with regs := rgOf R } bus v := by
  have hw : (wds (R.drop 1)).length = 31 := by simp [wds]; omega
  have hl : c.regs.toList.length = 32 := by simp
  rw [splice_len (by rw [hw]; omega), hw, cpuC_eq]
  have h1 : (rec32 (.int .u32 (c.pc.toNat : Int)) c.regs (c.tp bus v)).drop (2 + 31) = c.tp bus v := r32_drop _ _ _ 0
  rw [h1]
  have h2 : (rec32 (.int .u32 (c.pc.toNat : Int)) c.regs (c.tp bus v)).take 2 = [.int .u32 (c.pc.toNat : Int), .int .u32 ((R.getD 0 0#32).toNat : Int)] := by
    rw [h0, rec32]
    generalize c.regs.toList = r at *
    match r, hl with
    | a :: r, _ => rfl
  rw [h2]
  show _ = .int .u32 (c.pc.toNat : Int) :: (wds (rgOf R).toList ++ c.tp bus v)
  rw [rgOf_toList hR]
  match R, hR with
  | a :: r, _ => rfl
theorem mach_cut {H2 : Heap} {c' : ICpu} {M' : IRam} (h2 : MachAt H2 l c' M') (ho : ∀ d, H d ≠ none → ¬ l.has d → H2 d = H d) : ∃ h1, Sub h1 H2 ∧ MachAt h1 l c' M' ∧ ∀ d, ¬ l.has d → h1 d = H d := by
  classical
  refine ⟨fun d => if l.has d then H2 d else H d, fun d x hd => ?_, h2.same fun d hd => if_pos hd, fun d hd => if_neg hd⟩
  simp only at hd
  split at hd
  · exact hd
  · next hn => rw [ho d (by rw [hd]; simp) hn]; exact hd
/-- The machine behind a block. -/
def doC (c : ICpu) (b : IBk) (M : IRam) : ICpu :=
  let n := b.exitOf c.regs.toList M
  let e := b.ex n.toNat
  let vals := (runN c.regs.toList b.ops [] M).2.1
  { c with pc := leaveP e vals, regs := rgOf (leaveR e c.regs.toList vals), tick := c.tick + BitVec.ofInt 64 e.done, ret := c.ret + BitVec.ofInt 64 e.done, bus := { c.bus with b := (b.ramOf c.regs.toList M).b } }
def DoneA (H : Heap) (l : Plc) (c : ICpu) (b : IBk) (M : IRam) (r : AV) (H' : Heap) : Prop := r = .tup [.agg (b.outOf c.regs.toList M), .int .i64 0] ∧ MachAt H' l (doC c b M) (b.ramOf c.regs.toList M) ∧ ∀ d, ¬ l.has d → H' d = H d
theorem doA_yes (hm : MachAt H l c M) (hw : b.wf) (fuel : Int) (hx : ∀ e ∈ b.exits, e.map.length ≤ 1000) (hn : askN c b fuel = 0) (hc : b.check = 0) : Spec Tryz.prog G 11 [.ptr l.p 0, bkP b, .int .i64 fuel] H (DoneA H l c b M) := by
  refine Spec.drop ?_
  have hlen : c.regs.toList.length = 32 := by simp
  obtain ⟨v, hcp, _⟩ := hm.hc
  refine Spec.walk C11ok rfl ?_
  simp only [push_cast, simprocAttr]
  intro c6 hc6
  have m6 : upd H c6 ⟨[.int .u32 0, .int .u32 0, .int .u32 0, .int .u32 0, .int .u32 0, .int .u32 0, .int .u32 0, .int .u32 0, .int .u32 0, .int .u32 0, .int .u32 0, .int .u32 0, .int .u32 0, .int .u32 0, .int .u32 0, .int .u32 0, .int .u32 0, .int .u32 0, .int .u32 0, .int .u32 0, .int .u32 0, .int .u32 0, .int .u32 0, .int .u32 0, .int .u32 0, .int .u32 0, .int .u32 0, .int .u32 0, .int .u32 0, .int .u32 0, .int .u32 0, .int .u32 0, .int .u32 0, .int .i64 0, .int .i64 0, .int .i64 0], 0⟩ c6 = some ⟨[.int .u32 0, .int .u32 0, .int .u32 0, .int .u32 0, .int .u32 0, .int .u32 0, .int .u32 0, .int .u32 0, .int .u32 0, .int .u32 0, .int .u32 0, .int .u32 0, .int .u32 0, .int .u32 0, .int .u32 0, .int .u32 0, .int .u32 0, .int .u32 0, .int .u32 0, .int .u32 0, .int .u32 0, .int .u32 0, .int .u32 0, .int .u32 0, .int .u32 0, .int .u32 0, .int .u32 0, .int .u32 0, .int .u32 0, .int .u32 0, .int .u32 0, .int .u32 0, .int .u32 0, .int .i64 0, .int .i64 0, .int .i64 0], 0⟩ := upd_same _ _ _
  have s6 : Sub H (upd H c6 ⟨[.int .u32 0, .int .u32 0, .int .u32 0, .int .u32 0, .int .u32 0, .int .u32 0, .int .u32 0, .int .u32 0, .int .u32 0, .int .u32 0, .int .u32 0, .int .u32 0, .int .u32 0, .int .u32 0, .int .u32 0, .int .u32 0, .int .u32 0, .int .u32 0, .int .u32 0, .int .u32 0, .int .u32 0, .int .u32 0, .int .u32 0, .int .u32 0, .int .u32 0, .int .u32 0, .int .u32 0, .int .u32 0, .int .u32 0, .int .u32 0, .int .u32 0, .int .u32 0, .int .u32 0, .int .i64 0, .int .i64 0, .int .i64 0], 0⟩) := (Sub.refl H).alloc hc6
  have hm6 : MachAt (Ab.upd H c6 ⟨[.int .u32 0, .int .u32 0, .int .u32 0, .int .u32 0, .int .u32 0, .int .u32 0, .int .u32 0, .int .u32 0, .int .u32 0, .int .u32 0, .int .u32 0, .int .u32 0, .int .u32 0, .int .u32 0, .int .u32 0, .int .u32 0, .int .u32 0, .int .u32 0, .int .u32 0, .int .u32 0, .int .u32 0, .int .u32 0, .int .u32 0, .int .u32 0, .int .u32 0, .int .u32 0, .int .u32 0, .int .u32 0, .int .u32 0, .int .u32 0, .int .u32 0, .int .u32 0, .int .u32 0, .int .i64 0, .int .i64 0, .int .i64 0], 0⟩) l c M := hm.upd hc6
  generalize upd H c6 ⟨[.int .u32 0, .int .u32 0, .int .u32 0, .int .u32 0, .int .u32 0, .int .u32 0, .int .u32 0, .int .u32 0, .int .u32 0, .int .u32 0, .int .u32 0, .int .u32 0, .int .u32 0, .int .u32 0, .int .u32 0, .int .u32 0, .int .u32 0, .int .u32 0, .int .u32 0, .int .u32 0, .int .u32 0, .int .u32 0, .int .u32 0, .int .u32 0, .int .u32 0, .int .u32 0, .int .u32 0, .int .u32 0, .int .u32 0, .int .u32 0, .int .u32 0, .int .u32 0, .int .u32 0, .int .i64 0, .int .i64 0, .int .i64 0], 0⟩ = H6 at m6 s6 hm6 ⊢
  have ha := askApply_spec (G := G) hm6 hw fuel
  rw [hn] at ha
  have hp6 := s6 _ _ hcp
  have hU : ∀ b3 X, H6 b3 = none → MachAt (Ab.upd H6 b3 X) l c M := fun b3 X hb3 => hm6.upd hb3
  have hP : ∀ b3 X, H6 b3 = none → Ab.upd H6 b3 X l.p = some ⟨cpuC c l.bus v, 0⟩ := fun b3 X hb3 => by rw [upd_ne (fun e => by rw [e, hb3] at hp6; cases hp6)]; exact hp6
  have hD := fun (h : Heap) (hr : RamAt h l.ram M) => Do_right (G := G) (regs := c.regs.toList) hr hw hc hlen hx
  have hout : b.outOf c.regs.toList M = outC (leaveR (b.ex (b.exitOf c.regs.toList M).toNat) c.regs.toList (runN c.regs.toList b.ops [] M).2.1) (leaveP (b.ex (b.exitOf c.regs.toList M).toNat) (runN c.regs.toList b.ops [] M).2.1) (b.ex (b.exitOf c.regs.toList M).toNat).done (b.ex (b.exitOf c.regs.toList M).toNat).why (b.exitOf c.regs.toList M) := rfl
  have hdo : doC c b M = { c with pc := leaveP (b.ex (b.exitOf c.regs.toList M).toNat) (runN c.regs.toList b.ops [] M).2.1, regs := rgOf (leaveR (b.ex (b.exitOf c.regs.toList M).toNat) c.regs.toList (runN c.regs.toList b.ops [] M).2.1), tick := c.tick + BitVec.ofInt 64 (b.ex (b.exitOf c.regs.toList M).toNat).done, ret := c.ret + BitVec.ofInt 64 (b.ex (b.exitOf c.regs.toList M).toNat).done, bus := { c.bus with b := (b.ramOf c.regs.toList M).b } } := rfl
  have hpr : ¬ l.ram.has l.p := fun e => (Plc.nd hm.nd).2.1.2.2.2.2.1 _ e rfl
  have hR : (leaveR (b.ex (b.exitOf c.regs.toList M).toNat) c.regs.toList (runN c.regs.toList b.ops [] M).2.1).length = 32 := by rw [leaveR, foldR_len]; simp
  simp only [DoneA]
  have hR0 : (leaveR (b.ex (b.exitOf c.regs.toList M).toNat) c.regs.toList (runN c.regs.toList b.ops [] M).2.1).getD 0 0#32 = c.regs.toList.getD 0 0#32 := by
    have hright := check_right hc
    obtain ⟨x1, x2⟩ := exitOf_ok hright c.regs.toList M
    have hreg : ∀ v ∈ (b.ex (b.exitOf c.regs.toList M).toNat).map, 1 ≤ v.reg := by
      intro v hv
      obtain ⟨i, hi, rfl⟩ := List.getElem_of_mem hv
      have := leaves_ok (right_ex hright (b.exitOf c.regs.toList M).toNat (by omega)) i hi
      simp only [IEx.vl, List.getD_eq_getElem?_getD, List.getElem?_eq_getElem hi, Option.getD_some] at this
      omega
    rw [leaveR]
    exact foldR_no _ _ _ 0 (fun v hv => by have := hreg v hv; omega) (fun v hv => by have := hreg v hv; omega)
  rw [hout] at hD ⊢
  rw [hdo]
  generalize leaveR (b.ex (b.exitOf c.regs.toList M).toNat) c.regs.toList (runN c.regs.toList b.ops [] M).2.1 = R at *
  generalize leaveP (b.ex (b.exitOf c.regs.toList M).toNat) (runN c.regs.toList b.ops [] M).2.1 = Pc at *
  generalize (b.ex (b.exitOf c.regs.toList M).toNat).done = dn at *
  generalize (b.ex (b.exitOf c.regs.toList M).toNat).why = wh at *
  generalize b.exitOf c.regs.toList M = xn at *
  generalize b.ramOf c.regs.toList M = M' at *
  have hasR : ∀ d, l.ram.has d → l.has d := fun d hd => by
    simp only [Pl.has] at hd
    simp only [Plc.has, Plc.l, List.mem_cons, List.mem_append, List.cons_append, List.nil_append, List.not_mem_nil, or_false, Option.mem_toList]
    grind
  have fin : ∀ (H7 : Heap) (c9 : Nat), MachAt H7 l { c with bus := { c.bus with b := M'.b } } M' → H7 l.p = some ⟨cpuC c l.bus v, 0⟩ → H6 c9 = none → (∀ d, ¬ l.has d → d ≠ c9 → H7 d = H6 d) →
      ∃ h1, Sub h1 (upd (upd (upd H7 c9 ⟨outC R Pc dn wh xn, 0⟩) l.p ⟨cpuC { pc := Pc, regs := rgOf R, f := c.f, tick := c.tick + BitVec.ofInt 64 dn, ret := c.ret + BitVec.ofInt 64 dn, bus := c.bus, ev := c.ev } l.bus v, 0⟩) c6 ⟨outC R Pc dn wh xn, 0⟩) ∧
        MachAt h1 l { pc := Pc, regs := rgOf R, f := c.f, tick := c.tick + BitVec.ofInt 64 dn, ret := c.ret + BitVec.ofInt 64 dn, bus := { b := M'.b, c := c.bus.c, t := c.bus.t, off := c.bus.off, code := c.bus.code }, ev := c.ev } M' ∧ ∀ d, ¬ l.has d → h1 d = H d := by
    intro H7 c9 hm7 hp7 h69 ho79
    have hat : ∀ d, l.has d → d ≠ c9 ∧ d ≠ c6 := fun d hd => by
      obtain ⟨x, hx⟩ := hm.at hd
      exact ⟨fun e => (by have := s6 _ _ hx; rw [e, h69] at this; cases this), fun e => (by rw [e, hc6] at hx; cases hx)⟩
    have k1 : MachAt (upd H7 c9 ⟨outC R Pc dn wh xn, 0⟩) l { c with bus := { c.bus with b := M'.b } } M' := hm7.same fun d hd => upd_ne (hat d hd).1
    have hlp : l.has l.p := by simp [Plc.has, Plc.l]
    have k2 := k1.setC (c' := { pc := Pc, regs := rgOf R, f := c.f, tick := c.tick + BitVec.ofInt 64 dn, ret := c.ret + BitVec.ofInt 64 dn, bus := { b := M'.b, c := c.bus.c, t := c.bus.t, off := c.bus.off, code := c.bus.code }, ev := c.ev }) (v := v) (by rw [upd_ne (hat _ hlp).1]; exact hp7) rfl rfl
    refine mach_cut (k2.same fun d hd => upd_ne (hat d hd).2) fun d hd hn => ?_
    obtain ⟨x, hx⟩ : ∃ x, H d = some x := by
      cases h : H d with
      | none => exact absurd h hd
      | some x => exact ⟨x, rfl⟩
    have hx6 := s6 _ _ hx
    rw [upd_ne (fun e => by rw [e, hc6] at hx; cases hx), upd_ne (fun e => hn (by rw [e]; exact hlp)), upd_ne (fun e => by rw [e, h69] at hx6; cases hx6), ho79 d hn (fun e => by rw [e, h69] at hx6; cases hx6), hx6, hx]
  refine ha.to ?_
  simp only [push_cast, simprocAttr, hp6]
  refine ⟨(cBus_spec (G := G) hm6).to ?_, fun c9 hc9 => ?_⟩
  · simp only [push_cast, simprocAttr, hp6]
    refine ⟨(bRam_spec (G := G) hm6).to ?_, fun c9 hc9 => ?_⟩
    · simp only [push_cast, simprocAttr, hp6]
      refine ⟨(hD _ hm6.hr).mono ?_, fun c9 hc9 => ?_⟩
      · rintro _ H7 ⟨rfl, hr7, ho7⟩
        have hm7 := hm6.setR hr7 ho7
        have m67 : H7 c6 = some ⟨[.int .u32 0, .int .u32 0, .int .u32 0, .int .u32 0, .int .u32 0, .int .u32 0, .int .u32 0, .int .u32 0, .int .u32 0, .int .u32 0, .int .u32 0, .int .u32 0, .int .u32 0, .int .u32 0, .int .u32 0, .int .u32 0, .int .u32 0, .int .u32 0, .int .u32 0, .int .u32 0, .int .u32 0, .int .u32 0, .int .u32 0, .int .u32 0, .int .u32 0, .int .u32 0, .int .u32 0, .int .u32 0, .int .u32 0, .int .u32 0, .int .u32 0, .int .u32 0, .int .u32 0, .int .i64 0, .int .i64 0, .int .i64 0], 0⟩ := by rw [ho7 _ (hm.hr.not hc6)]; exact m6
        have hp7 : H7 l.p = some ⟨cpuC c l.bus v, 0⟩ := by rw [ho7 _ hpr]; exact hp6
        simp only [push_cast, simprocAttr]
        intro c9 hc9
        have h69 : H6 c9 = none := by rw [← ho7 _ (hr7.not hc9)]; exact hc9
        have ho79 : ∀ d, ¬ l.has d → d ≠ c9 → H7 d = H6 d := fun d hd _ => ho7 d fun e => hd (hasR d e)
        have hne : c9 ≠ l.p := fun e => by rw [e] at h69; rw [h69] at hp6; cases hp6
        have n96 : c6 ≠ c9 := fun e => by rw [e, h69] at m6; cases m6
        have n6p : c6 ≠ l.p := fun e => by rw [e, hcp] at hc6; cases hc6
        have q9 : ∀ X, upd H7 c9 X c9 = some X := fun X => upd_same _ _ _
        have hP7 : ∀ X, upd H7 c9 X l.p = some ⟨cpuC c l.bus v, 0⟩ := fun X => by rw [upd_ne (Ne.symm hne)]; exact hp7
        have q99 : ∀ X Y, upd (upd H7 c9 X) l.p Y c9 = some X := fun X Y => by rw [upd_ne hne]; exact upd_same _ _ _
        have q66 : ∀ X Y, upd (upd H7 c9 X) l.p Y c6 = some ⟨[.int .u32 0, .int .u32 0, .int .u32 0, .int .u32 0, .int .u32 0, .int .u32 0, .int .u32 0, .int .u32 0, .int .u32 0, .int .u32 0, .int .u32 0, .int .u32 0, .int .u32 0, .int .u32 0, .int .u32 0, .int .u32 0, .int .u32 0, .int .u32 0, .int .u32 0, .int .u32 0, .int .u32 0, .int .u32 0, .int .u32 0, .int .u32 0, .int .u32 0, .int .u32 0, .int .u32 0, .int .u32 0, .int .u32 0, .int .u32 0, .int .u32 0, .int .u32 0, .int .u32 0, .int .i64 0, .int .i64 0, .int .i64 0], 0⟩ := fun X Y => by rw [upd_ne n6p, upd_ne n96]; exact m67
        simp only [push_cast, simprocAttr, q9, oc_put36 hR, oc_all hR, oc_len hR, hP7]
        simp only [push_cast, simprocAttr, outC_regs hR, cpb_copy c l.bus v hR hR0, q99, q66, (oc_at hR).1, (oc_at hR).2.1, oc_all hR, oc_len hR, oc_put36 hR]
        exact fin H7 c9 hm7 hp7 h69 ho79
      · have hp3 := fun X => hP c9 X hc9
        simp only [push_cast, simprocAttr, hp3]
        refine (hD _ (hU c9 _ hc9).hr).mono ?_
        rintro _ H7 ⟨rfl, hr7, ho7⟩
        have h69 := hc9
        have n9r : ¬ l.ram.has c9 := hm6.hr.not hc9
        have hm7 := (hU c9 _ hc9).setR hr7 ho7
        have m67 : H7 c6 = some ⟨[.int .u32 0, .int .u32 0, .int .u32 0, .int .u32 0, .int .u32 0, .int .u32 0, .int .u32 0, .int .u32 0, .int .u32 0, .int .u32 0, .int .u32 0, .int .u32 0, .int .u32 0, .int .u32 0, .int .u32 0, .int .u32 0, .int .u32 0, .int .u32 0, .int .u32 0, .int .u32 0, .int .u32 0, .int .u32 0, .int .u32 0, .int .u32 0, .int .u32 0, .int .u32 0, .int .u32 0, .int .u32 0, .int .u32 0, .int .u32 0, .int .u32 0, .int .u32 0, .int .u32 0, .int .i64 0, .int .i64 0, .int .i64 0], 0⟩ := by rw [ho7 _ (hm.hr.not hc6), upd_ne (fun e => by rw [e, hc9] at m6; cases m6)]; exact m6
        have hp7 : H7 l.p = some ⟨cpuC c l.bus v, 0⟩ := by rw [ho7 _ hpr]; exact hP c9 _ hc9
        have m79 : H7 c9 = some ⟨[.int .u32 0, .int .u32 0, .int .u32 0, .int .u32 0, .int .u32 0, .int .u32 0, .int .u32 0, .int .u32 0, .int .u32 0, .int .u32 0, .int .u32 0, .int .u32 0, .int .u32 0, .int .u32 0, .int .u32 0, .int .u32 0, .int .u32 0, .int .u32 0, .int .u32 0, .int .u32 0, .int .u32 0, .int .u32 0, .int .u32 0, .int .u32 0, .int .u32 0, .int .u32 0, .int .u32 0, .int .u32 0, .int .u32 0, .int .u32 0, .int .u32 0, .int .u32 0, .int .u32 0, .int .i64 0, .int .i64 0, .int .i64 0], 0⟩ := by rw [ho7 _ n9r]; exact upd_same _ _ _
        have ho79 : ∀ d, ¬ l.has d → d ≠ c9 → H7 d = H6 d := fun d hd h9 => by rw [ho7 d (fun e => hd (hasR d e)), upd_ne h9]
        have hne : c9 ≠ l.p := fun e => by rw [e] at h69; rw [h69] at hp6; cases hp6
        have n96 : c6 ≠ c9 := fun e => by rw [e, h69] at m6; cases m6
        have n6p : c6 ≠ l.p := fun e => by rw [e, hcp] at hc6; cases hc6
        have q9 : ∀ X, upd H7 c9 X c9 = some X := fun X => upd_same _ _ _
        have hP7 : ∀ X, upd H7 c9 X l.p = some ⟨cpuC c l.bus v, 0⟩ := fun X => by rw [upd_ne (Ne.symm hne)]; exact hp7
        have q99 : ∀ X Y, upd (upd H7 c9 X) l.p Y c9 = some X := fun X Y => by rw [upd_ne hne]; exact upd_same _ _ _
        have q66 : ∀ X Y, upd (upd H7 c9 X) l.p Y c6 = some ⟨[.int .u32 0, .int .u32 0, .int .u32 0, .int .u32 0, .int .u32 0, .int .u32 0, .int .u32 0, .int .u32 0, .int .u32 0, .int .u32 0, .int .u32 0, .int .u32 0, .int .u32 0, .int .u32 0, .int .u32 0, .int .u32 0, .int .u32 0, .int .u32 0, .int .u32 0, .int .u32 0, .int .u32 0, .int .u32 0, .int .u32 0, .int .u32 0, .int .u32 0, .int .u32 0, .int .u32 0, .int .u32 0, .int .u32 0, .int .u32 0, .int .u32 0, .int .u32 0, .int .u32 0, .int .i64 0, .int .i64 0, .int .i64 0], 0⟩ := fun X Y => by rw [upd_ne n6p, upd_ne n96]; exact m67
        simp only [push_cast, simprocAttr, m79, q9, oc_put36 hR, oc_all hR, oc_len hR, hP7]
        simp only [push_cast, simprocAttr, outC_regs hR, cpb_copy c l.bus v hR hR0, q99, q66, (oc_at hR).1, (oc_at hR).2.1, oc_all hR, oc_len hR, oc_put36 hR]
        exact fin H7 c9 hm7 hp7 h69 ho79
    · have hp3 := fun X => hP c9 X hc9
      simp only [push_cast, simprocAttr, hp3]
      refine (bRam_spec (G := G) (hU c9 _ hc9)).to ?_
      simp only [push_cast, simprocAttr, hp3]
      refine (hD _ (hU c9 _ hc9).hr).mono ?_
      rintro _ H7 ⟨rfl, hr7, ho7⟩
      have h69 := hc9
      have n9r : ¬ l.ram.has c9 := hm6.hr.not hc9
      have hm7 := (hU c9 _ hc9).setR hr7 ho7
      have m67 : H7 c6 = some ⟨[.int .u32 0, .int .u32 0, .int .u32 0, .int .u32 0, .int .u32 0, .int .u32 0, .int .u32 0, .int .u32 0, .int .u32 0, .int .u32 0, .int .u32 0, .int .u32 0, .int .u32 0, .int .u32 0, .int .u32 0, .int .u32 0, .int .u32 0, .int .u32 0, .int .u32 0, .int .u32 0, .int .u32 0, .int .u32 0, .int .u32 0, .int .u32 0, .int .u32 0, .int .u32 0, .int .u32 0, .int .u32 0, .int .u32 0, .int .u32 0, .int .u32 0, .int .u32 0, .int .u32 0, .int .i64 0, .int .i64 0, .int .i64 0], 0⟩ := by rw [ho7 _ (hm.hr.not hc6), upd_ne (fun e => by rw [e, hc9] at m6; cases m6)]; exact m6
      have hp7 : H7 l.p = some ⟨cpuC c l.bus v, 0⟩ := by rw [ho7 _ hpr]; exact hP c9 _ hc9
      have m79 : H7 c9 = some ⟨[.int .u32 0, .int .u32 0, .int .u32 0, .int .u32 0, .int .u32 0, .int .u32 0, .int .u32 0, .int .u32 0, .int .u32 0, .int .u32 0, .int .u32 0, .int .u32 0, .int .u32 0, .int .u32 0, .int .u32 0, .int .u32 0, .int .u32 0, .int .u32 0, .int .u32 0, .int .u32 0, .int .u32 0, .int .u32 0, .int .u32 0, .int .u32 0, .int .u32 0, .int .u32 0, .int .u32 0, .int .u32 0, .int .u32 0, .int .u32 0, .int .u32 0, .int .u32 0, .int .u32 0, .int .i64 0, .int .i64 0, .int .i64 0], 0⟩ := by rw [ho7 _ n9r]; exact upd_same _ _ _
      have ho79 : ∀ d, ¬ l.has d → d ≠ c9 → H7 d = H6 d := fun d hd h9 => by rw [ho7 d (fun e => hd (hasR d e)), upd_ne h9]
      have hne : c9 ≠ l.p := fun e => by rw [e] at h69; rw [h69] at hp6; cases hp6
      have n96 : c6 ≠ c9 := fun e => by rw [e, h69] at m6; cases m6
      have n6p : c6 ≠ l.p := fun e => by rw [e, hcp] at hc6; cases hc6
      have q9 : ∀ X, upd H7 c9 X c9 = some X := fun X => upd_same _ _ _
      have hP7 : ∀ X, upd H7 c9 X l.p = some ⟨cpuC c l.bus v, 0⟩ := fun X => by rw [upd_ne (Ne.symm hne)]; exact hp7
      have q99 : ∀ X Y, upd (upd H7 c9 X) l.p Y c9 = some X := fun X Y => by rw [upd_ne hne]; exact upd_same _ _ _
      have q66 : ∀ X Y, upd (upd H7 c9 X) l.p Y c6 = some ⟨[.int .u32 0, .int .u32 0, .int .u32 0, .int .u32 0, .int .u32 0, .int .u32 0, .int .u32 0, .int .u32 0, .int .u32 0, .int .u32 0, .int .u32 0, .int .u32 0, .int .u32 0, .int .u32 0, .int .u32 0, .int .u32 0, .int .u32 0, .int .u32 0, .int .u32 0, .int .u32 0, .int .u32 0, .int .u32 0, .int .u32 0, .int .u32 0, .int .u32 0, .int .u32 0, .int .u32 0, .int .u32 0, .int .u32 0, .int .u32 0, .int .u32 0, .int .u32 0, .int .u32 0, .int .i64 0, .int .i64 0, .int .i64 0], 0⟩ := fun X Y => by rw [upd_ne n6p, upd_ne n96]; exact m67
      simp only [push_cast, simprocAttr, m79, q9, oc_put36 hR, oc_all hR, oc_len hR, hP7]
      simp only [push_cast, simprocAttr, outC_regs hR, cpb_copy c l.bus v hR hR0, q99, q66, (oc_at hR).1, (oc_at hR).2.1, oc_all hR, oc_len hR, oc_put36 hR]
      exact fin H7 c9 hm7 hp7 h69 ho79
  · have hp3 := fun X => hP c9 X hc9
    simp only [push_cast, simprocAttr, hp3]
    refine (cBus_spec (G := G) (hU c9 _ hc9)).to ?_
    simp only [push_cast, simprocAttr, hp3]
    refine (bRam_spec (G := G) (hU c9 _ hc9)).to ?_
    simp only [push_cast, simprocAttr, hp3]
    refine (hD _ (hU c9 _ hc9).hr).mono ?_
    rintro _ H7 ⟨rfl, hr7, ho7⟩
    have h69 := hc9
    have n9r : ¬ l.ram.has c9 := hm6.hr.not hc9
    have hm7 := (hU c9 _ hc9).setR hr7 ho7
    have m67 : H7 c6 = some ⟨[.int .u32 0, .int .u32 0, .int .u32 0, .int .u32 0, .int .u32 0, .int .u32 0, .int .u32 0, .int .u32 0, .int .u32 0, .int .u32 0, .int .u32 0, .int .u32 0, .int .u32 0, .int .u32 0, .int .u32 0, .int .u32 0, .int .u32 0, .int .u32 0, .int .u32 0, .int .u32 0, .int .u32 0, .int .u32 0, .int .u32 0, .int .u32 0, .int .u32 0, .int .u32 0, .int .u32 0, .int .u32 0, .int .u32 0, .int .u32 0, .int .u32 0, .int .u32 0, .int .u32 0, .int .i64 0, .int .i64 0, .int .i64 0], 0⟩ := by rw [ho7 _ (hm.hr.not hc6), upd_ne (fun e => by rw [e, hc9] at m6; cases m6)]; exact m6
    have hp7 : H7 l.p = some ⟨cpuC c l.bus v, 0⟩ := by rw [ho7 _ hpr]; exact hP c9 _ hc9
    have m79 : H7 c9 = some ⟨[.int .u32 0, .int .u32 0, .int .u32 0, .int .u32 0, .int .u32 0, .int .u32 0, .int .u32 0, .int .u32 0, .int .u32 0, .int .u32 0, .int .u32 0, .int .u32 0, .int .u32 0, .int .u32 0, .int .u32 0, .int .u32 0, .int .u32 0, .int .u32 0, .int .u32 0, .int .u32 0, .int .u32 0, .int .u32 0, .int .u32 0, .int .u32 0, .int .u32 0, .int .u32 0, .int .u32 0, .int .u32 0, .int .u32 0, .int .u32 0, .int .u32 0, .int .u32 0, .int .u32 0, .int .i64 0, .int .i64 0, .int .i64 0], 0⟩ := by rw [ho7 _ n9r]; exact upd_same _ _ _
    have ho79 : ∀ d, ¬ l.has d → d ≠ c9 → H7 d = H6 d := fun d hd h9 => by rw [ho7 d (fun e => hd (hasR d e)), upd_ne h9]
    have hne : c9 ≠ l.p := fun e => by rw [e] at h69; rw [h69] at hp6; cases hp6
    have n96 : c6 ≠ c9 := fun e => by rw [e, h69] at m6; cases m6
    have n6p : c6 ≠ l.p := fun e => by rw [e, hcp] at hc6; cases hc6
    have q9 : ∀ X, upd H7 c9 X c9 = some X := fun X => upd_same _ _ _
    have hP7 : ∀ X, upd H7 c9 X l.p = some ⟨cpuC c l.bus v, 0⟩ := fun X => by rw [upd_ne (Ne.symm hne)]; exact hp7
    have q99 : ∀ X Y, upd (upd H7 c9 X) l.p Y c9 = some X := fun X Y => by rw [upd_ne hne]; exact upd_same _ _ _
    have q66 : ∀ X Y, upd (upd H7 c9 X) l.p Y c6 = some ⟨[.int .u32 0, .int .u32 0, .int .u32 0, .int .u32 0, .int .u32 0, .int .u32 0, .int .u32 0, .int .u32 0, .int .u32 0, .int .u32 0, .int .u32 0, .int .u32 0, .int .u32 0, .int .u32 0, .int .u32 0, .int .u32 0, .int .u32 0, .int .u32 0, .int .u32 0, .int .u32 0, .int .u32 0, .int .u32 0, .int .u32 0, .int .u32 0, .int .u32 0, .int .u32 0, .int .u32 0, .int .u32 0, .int .u32 0, .int .u32 0, .int .u32 0, .int .u32 0, .int .u32 0, .int .i64 0, .int .i64 0, .int .i64 0], 0⟩ := fun X Y => by rw [upd_ne n6p, upd_ne n96]; exact m67
    simp only [push_cast, simprocAttr, m79, q9, oc_put36 hR, oc_all hR, oc_len hR, hP7]
    simp only [push_cast, simprocAttr, outC_regs hR, cpb_copy c l.bus v hR hR0, q99, q66, (oc_at hR).1, (oc_at hR).2.1, oc_all hR, oc_len hR, oc_put36 hR]
    exact fin H7 c9 hm7 hp7 h69 ho79
end
end Go.Ab
end
section
/- The document's memory: stored. -/
set_option linter.unusedSimpArgs false
set_option linter.unusedVariables false
set_option maxRecDepth 10000
namespace Go.Ab
open Go.Proofs
variable {G : Glo} {h : Heap}
/-- Blocks of one's own that lie beside what was there. -/
structure Bag (h H : Heap) (l : List (Nat × Blk)) : Prop where
  get : ∀ p ∈ l, H p.1 = some p.2
  new : ∀ p ∈ l, h p.1 = none
  nd : (l.map (·.1)).Nodup
  sub : Sub h H
theorem Bag.start (h : Heap) : Bag h h [] := ⟨fun p q => (by cases q), fun p q => (by cases q), by simp, Sub.refl h⟩
theorem Bag.alloc {h H : Heap} {l : List (Nat × Blk)} {b : Nat} (x : Blk) (hB : Bag h H l) (hb : H b = none) : Bag h (upd H b x) ((b, x) :: l) := by
  have hne : ∀ p ∈ l, p.1 ≠ b := fun p hp e => by rw [← e, hB.get p hp] at hb; cases hb
  refine ⟨fun p hp => ?_, fun p hp => ?_, ?_, hB.sub.alloc hb⟩
  · rcases List.mem_cons.1 hp with rfl | hp
    · exact upd_same _ _ _
    · rw [upd_ne (hne p hp)]; exact hB.get p hp
  · rcases List.mem_cons.1 hp with rfl | hp
    · exact hB.sub.none hb
    · exact hB.new p hp
  · simp only [List.map_cons, List.nodup_cons]
    refine ⟨fun q => ?_, hB.nd⟩
    obtain ⟨p, hp, e⟩ := List.mem_map.1 q
    exact hne p hp e
/-- A row moved, asz an append does. -/
theorem Bag.app {h H : Heap} {l r : List (Nat × Blk)} {b b' : Nat} {x : Blk} (y : Blk) (hB : Bag h H l) (hp : l.Perm ((b, x) :: r)) (hb : b' = b ∨ H b' = none) : Bag h (upd (era H b) b' y) ((b', y) :: r) := by
  have hnd : (((b, x) :: r).map (·.1)).Nodup := (hp.map _).nodup_iff.1 hB.nd
  simp only [List.map_cons, List.nodup_cons] at hnd
  have hbr : ∀ p ∈ r, p.1 ≠ b := fun p hp e => hnd.1 (e ▸ List.mem_map_of_mem hp)
  have hg : ∀ p ∈ r, H p.1 = some p.2 := fun p q => hB.get p (hp.mem_iff.2 (List.mem_cons_of_mem _ q))
  have hn : ∀ p ∈ r, h p.1 = none := fun p q => hB.new p (hp.mem_iff.2 (List.mem_cons_of_mem _ q))
  have hbn : h b = none := hB.new (b, x) (hp.mem_iff.2 (by simp))
  have hb'n : h b' = none := by
    rcases hb with rfl | q
    · exact hbn
    · exact hB.sub.none q
  have hne : ∀ p ∈ r, p.1 ≠ b' := fun p q e => by
    rcases hb with rfl | hb
    · exact hbr p q e
    · rw [← e, hg p q] at hb; cases hb
  refine ⟨fun p q => ?_, fun p q => ?_, ?_, fun c z hc => ?_⟩
  · rcases List.mem_cons.1 q with rfl | q
    · exact upd_same _ _ _
    · rw [upd_ne (hne p q), era, if_neg (hbr p q)]; exact hg p q
  · rcases List.mem_cons.1 q with rfl | q
    · exact hb'n
    · exact hn p q
  · simp only [List.map_cons, List.nodup_cons]
    refine ⟨fun q => ?_, hnd.2⟩
    obtain ⟨p, hp, e⟩ := List.mem_map.1 q
    exact hne p hp e
  · have h1 : c ≠ b := fun e => by rw [e, hbn] at hc; cases hc
    have h2 : c ≠ b' := fun e => by rw [e, hb'n] at hc; cases hc
    rw [upd_ne h2, era, if_neg h1]
    exact hB.sub c z hc
theorem Bag.perm {h H : Heap} {l r : List (Nat × Blk)} (hB : Bag h H l) (hp : l.Perm r) : Bag h H r :=
  ⟨fun p q => hB.get p (hp.mem_iff.2 q), fun p q => hB.new p (hp.mem_iff.2 q), (hp.map _).nodup_iff.1 hB.nd, hB.sub⟩
/-- A block written. -/
theorem Bag.set {h H : Heap} {r : List (Nat × Blk)} {b : Nat} {x : Blk} (y : Blk) (hB : Bag h H ((b, x) :: r)) : Bag h (upd H b y) ((b, y) :: r) := by
  have hnd := hB.nd
  simp only [List.map_cons, List.nodup_cons] at hnd
  refine ⟨fun p q => ?_, fun p q => ?_, hB.nd, hB.sub.set (hB.new (b, x) (by simp))⟩
  · rcases List.mem_cons.1 q with rfl | q
    · exact upd_same _ _ _
    · have hpb : p.1 ≠ b := fun e => hnd.1 (by rw [← e]; exact List.mem_map_of_mem q)
      rw [upd_ne hpb]; exact hB.get p (List.mem_cons_of_mem _ q)
  · rcases List.mem_cons.1 q with rfl | q
    · exact hB.new (b, x) (by simp)
    · exact hB.new p (List.mem_cons_of_mem _ q)
/-- A row that is made by an append to an empty one. -/
theorem appQ_new {sz bytes m : Nat} {cs : List AV} {h H : Heap} {l r : List (Nat × Blk)} {b : Nat} {Q : AV → Heap → Prop} (hB : Bag h H l) (hp : l.Perm ((b, ⟨[], 0⟩) :: r)) (hm : m * bytes ≤ 140737488355328) (hm2 : m ≤ 9223372036854775807)
    (hq : ∀ b' pre cap sp H', Bag h H' ((b', ⟨pre ++ cs, sp⟩) :: r) → Q (.sl b' pre.length m cap) H') : appQ sz bytes m cs (.sl b 0 0 0) H Q := by
  have hb : H b = some ⟨[], 0⟩ := hB.get (b, ⟨[], 0⟩) (hp.mem_iff.2 (by simp))
  simp only [appQ, hb]
  refine ⟨by simp, by simp, by simpa using hm, by simpa using hm2, fun b' pre cap sp hb' _ => ?_⟩
  have := hq b' pre cap sp _ (hB.app ⟨pre ++ cs, sp⟩ hp hb')
  simpa using this
theorem Bag.at {h H : Heap} {l : List (Nat × Blk)} {b : Nat} {x : Blk} (hB : Bag h H l) (hm : (b, x) ∈ l) : H b = some x := hB.get (b, x) hm
theorem ex_upd {h H : Heap} {l : List (Nat × Blk)} {b : Nat} (hb : H b = none) (x : Blk) (hB : Bag h H l) : ∃ H', upd H b x = H' ∧ Bag h H' ((b, x) :: l) := ⟨_, rfl, hB.alloc x hb⟩
theorem Le.aggp {h : Heap} {b n cap i : Nat} {pre cells : List AV} {L : List AV} {sp : Nat} (hi : L[i]? = some (.sl b pre.length n cap)) (hb : h b = some ⟨pre ++ cells, sp⟩) (h0 : n = 0 → cells = []) : Le (.agg L) h (.agg (L.set i (.ro cells n))) (del h b) := by
  have hd : del h b b = none := by simp [del_at]
  rw [upd_del hb]
  have e2 : del (upd (del h b) b ⟨pre ++ cells, sp⟩) b = del h b := by rw [← upd_del hb]
  rw [e2]
  intro w v hw hr
  obtain ⟨cs, rfl, hl, h1, hr1⟩ := rep_agg hr
  have hsub : Sub (del h b) (upd (del h b) b ⟨pre ++ cells, sp⟩) := (Sub.refl _).alloc hd
  obtain ⟨l1, _⟩ := hrep_less hw hsub
  have hk : Keeps w (upd (del h b) b ⟨pre ++ cells, sp⟩).dom w (del h b).dom := ⟨Nat.le_refl _, fun c _ hn => ⟨fun hd => hn fun e => hd (hsub.none e), rfl⟩, fun _ h => h⟩
  refine ⟨l1, .agg _ _ (by simpa using hl) h1 fun j u c e1 e2 => ?_, fun c hc => hsub.none hc⟩
  rw [List.getElem?_set] at e1
  split at e1
  · rename_i hij
    subst hij
    split at e1
    · cases e1
      exact (Le.freeze hd h0 w c hw (hr1 i _ c hi e2)).2.1
    · cases e1
  · exact (hr1 j u c e1 e2).keep hk
theorem Le.tupb {r r' : AV} {h h' : Heap} {x : Bool} (hl : Le r h r' h') : Le (.tup [r, .bool x]) h (.tup [r', .bool x]) h' := by
  intro w v hw hr
  obtain ⟨cs, rfl, hl1, hr1⟩ := rep_tup hr
  obtain ⟨a, b, rfl⟩ : ∃ a b, cs = #[a, b] := by
    match cs, hl1 with
    | ⟨[a, b]⟩, _ => exact ⟨a, b, rfl⟩
  obtain ⟨x1, x2, x3⟩ := hl w a hw (hr1 0 r a rfl rfl)
  refine ⟨x1, .tup _ _ rfl fun i u c h1 h2 => ?_, x3⟩
  match i with
  | 0 => simp at h1 h2; subst h1; subst h2; exact x2
  | 1 =>
    simp at h1 h2; subst h1; subst h2
    have := hr1 1 (.bool x) b rfl rfl
    rw [rep_bool this]; exact .bool _
  | i + 2 => simp at h1
section
variable {M : IRam}
/-- A memory in rows of one's own. -/
def OwnR (h : Heap) (M : IRam) (r : AV) (F : Heap) : Prop := ∃ bw pw cw sw bg pg cg sg, r = .agg [byt M.b, .sl bw (List.length pw) M.w.length cw, .sl bg (List.length pg) M.g.length cg] ∧ F bw = some ⟨pw ++ bos M.w, sw⟩ ∧ F bg = some ⟨pg ++ qws M.g, sg⟩ ∧ bw ≠ bg ∧
  (h bw = none ∧ h bg = none) ∧ Sub h F
theorem OwnR.le {r : AV} {F : Heap} (ho : OwnR h M r F) : Le r F (ramV M) h := by
  obtain ⟨bw, pw, cw, sw, bg, pg, cg, sg, rfl, h1, h2, hne, ⟨h4, h5⟩, h6⟩ := ho
  have e1 := Le.aggp (i := 1) (L := [byt M.b, .sl bw (List.length pw) M.w.length cw, .sl bg (List.length pg) M.g.length cg]) rfl h1 (fun e => by simp [bos, List.length_eq_zero_iff.1 e])
  have e2 := Le.aggp (h := del F bw) (i := 2) (L := [byt M.b, .ro (bos M.w) M.w.length, .sl bg (List.length pg) M.g.length cg]) rfl (sp := sg) (by rw [del_ne (Ne.symm hne)]; exact h2) (fun e => by simp [qws, List.length_eq_zero_iff.1 e])
  refine le_trans e1 (le_trans e2 (Le.less fun c x hc => ?_))
  rw [del_ne (fun e => by rw [e, h5] at hc; cases hc), del_ne (fun e => by rw [e, h4] at hc; cases hc)]
  exact h6 c x hc
theorem row_b (pre : List AV) (l : List Bool) (i : Nat) (hi : i < l.length) : (pre ++ bos l)[pre.length + i]? = some (.bool (l.getD i false)) := by
  rw [List.getElem?_append_right (by omega), Nat.add_sub_cancel_left, bos_get, if_pos hi]
theorem row_q (pre : List AV) (l : List (BitVec 64)) (i : Nat) (hi : i < l.length) : (pre ++ qws l)[pre.length + i]? = some (.int .u64 ((l.getD i 0#64).toNat : Int)) := by
  rw [List.getElem?_append_right (by omega), Nat.add_sub_cancel_left, qws_get, if_pos hi]
theorem rset_b (pre : List AV) (l : List Bool) (i : Nat) (x : Bool) : (pre ++ bos l).set (pre.length + i) (.bool x) = pre ++ bos (l.set i x) := by
  rw [List.set_append_right _ _ (by omega), Nat.add_sub_cancel_left, bos_set]
theorem rset_q (pre : List AV) (l : List (BitVec 64)) (i : Nat) (x : BitVec 64) : (pre ++ qws l).set (pre.length + i) (.int .u64 (x.toNat : Int)) = pre ++ qws (l.set i x) := by
  rw [List.set_append_right _ _ (by omega), Nat.add_sub_cancel_left, qws_set]
/-- What holds between the operations of Store's first row, whichever have been done. -/
structure SI (h : Heap) (M : IRam) (addr w : BitVec 32) (n : Nat) (B : List (BitVec 8)) (c8 b19 bw cw sw b23 bg cg sg c10 : Nat) (pw pg : List AV) (pre : List Nat) (ρ : Env) (H : Heap) : Prop where
  k1 : lk ρ 1 = .int .u32 addr.toNat
  k8 : lk ρ 8 = .ptr c8 0
  k12 : lk ρ 12 = .cp M.cells 0
  k13 : lk ρ 13 = byt M.b
  k14 : lk ρ 14 = .int .u32 addr.toNat
  k15 : lk ρ 15 = .int .u32 w.toNat
  k16 : lk ρ 16 = .int .i64 n
  k4 : lk ρ 4 = .cp M.cells 0
  k2 : lk ρ 2 = .int .i64 n
  k3 : lk ρ 3 = .int .u32 w.toNat
  k20 : lk ρ 20 = .cp M.cells 1
  k21 : lk ρ 21 = .ro (bos M.w) M.w.length
  k24 : lk ρ 24 = .cp M.cells 2
  k25 : lk ρ 25 = .ro (qws M.g) M.g.length
  f5 : 5 ∈ pre → lk ρ 17 = byt (leB w n)
  f6 : 6 ∈ pre → lk ρ 18 = byt B
  f7 : 7 ∈ pre → lk ρ 19 = .sl b19 0 0 0
  f10 : 10 ∈ pre → lk ρ 22 = .sl bw (List.length pw) M.w.length cw
  f11 : 11 ∈ pre → lk ρ 23 = .sl b23 0 0 0
  f14 : 14 ∈ pre → lk ρ 26 = .sl bg (List.length pg) M.g.length cg
  f15 : 15 ∈ pre → lk ρ 27 = .agg [byt B, .sl bw (List.length pw) M.w.length cw, .sl bg (List.length pg) M.g.length cg]
  f16 : 16 ∈ pre → lk ρ 10 = .ptr c10 0
  d10 : 10 ∈ pre → 7 ∈ pre
  d14 : 14 ∈ pre → 11 ∈ pre
  d15 : 15 ∈ pre → 6 ∈ pre ∧ 10 ∈ pre ∧ 14 ∈ pre
  d17 : 17 ∈ pre → 15 ∈ pre ∧ 16 ∈ pre
  bag : Bag h H ((if 10 ∈ pre then [(bw, ⟨pw ++ bos M.w, sw⟩)] else if 7 ∈ pre then [(b19, ⟨[], 0⟩)] else []) ++ ((if 14 ∈ pre then [(bg, ⟨pg ++ qws M.g, sg⟩)] else if 11 ∈ pre then [(b23, ⟨[], 0⟩)] else []) ++
    ((if 17 ∈ pre then [(c10, ⟨[byt B, .sl bw (List.length pw) M.w.length cw, .sl bg (List.length pg) M.g.length cg], 0⟩)] else if 16 ∈ pre then [(c10, ⟨[.nils, .nils, .nils], 0⟩)] else []) ++ [(c8, ⟨[.nils, .nils, .nils], 0⟩)])))
theorem rStore_spec (hM : M.wf) (addr : BitVec 32) (n : Nat) (w : BitVec 32) (hz : askedN M.b.length addr n = 0) : Spec Tryz.prog G 76 [ramV M, .int .u32 addr.toNat, .int .i64 n, .int .u32 w.toNat] h
    (Is (.tup [ramV (M.store addr n w).1, .bool (M.store addr n w).2]) h) := by
  have hlt := addr.isLt
  have hH : hasN M.b.length addr n = true := by unfold askedN at hz; split at hz; omega; split at hz; omega; split at hz; assumption; omega
  have hn : n = 1 ∨ n = 2 ∨ n = 4 := by unfold askedN at hz; split at hz <;> omega
  have hH' := hH
  simp only [hasN, Bool.and_eq_true, decide_eq_true_eq] at hH'
  have hll : (leB w n).length = n := leB_len w n
  have hwf := hM
  unfold IRam.wf at hwf
  have rm0 : M.cells[0]? = some (byt M.b) := rfl
  have rm1 : M.cells[1]? = some (.ro (bos M.w) M.w.length) := rfl
  have rm2 : M.cells[2]? = some (.ro (qws M.g) M.g.length) := rfl
  have rml : M.cells.length = 3 := rfl
  obtain ⟨k, hk⟩ : ∃ k, addr.toNat - 2147483648 = k := ⟨_, rfl⟩
  have hk' : (addr.toNat : Int) - 2147483648 = k := by omega
  obtain ⟨p, hp⟩ : ∃ p, k / 64 = p := ⟨_, rfl⟩
  have hp' : (k : Int).tdiv 64 = (p : Int) := by rw [← hp]; simp
  have hS : M.store addr n w = (if M.w.getD p false then ({ M.put k (leB w n) with w := M.w.set p false, g := M.g.set p (M.g.getD p 0#64 + 1#64) }, true) else (M.put k (leB w n), false)) := by simp only [IRam.store, hk, hp]; rfl
  have hpl : p < M.w.length := by omega
  have hpl2 : p < M.g.length := by omega
  refine Spec.weak (Q := fun r F => ∃ r1, r = .tup [r1, .bool (M.store addr n w).2] ∧ OwnR h (M.store addr n w).1 r1 F) ?_ ?_
  · have tail : ∀ (c8 c10 bw cw sw bg cg sg : Nat) (pw pg : List AV) (H : Heap) (l : List (Nat × Blk)), Bag h H l → (c10, ⟨[byt (M.b.take k ++ leB w n ++ M.b.drop (k + n)), .sl bw (List.length pw) M.w.length cw, .sl bg (List.length pg) M.g.length cg], 0⟩) ∈ l → (c8, ⟨[.nils, .nils, .nils], 0⟩) ∈ l → (bw, ⟨pw ++ bos M.w, sw⟩) ∈ l → (bg, ⟨pg ++ qws M.g, sg⟩) ∈ l →
        (c8 ≠ c10 ∧ c8 ≠ bw ∧ c8 ≠ bg ∧ c10 ≠ bw ∧ c10 ≠ bg ∧ bw ≠ bg) →
        wpc Tryz.prog G Tryz.f76.ntmps C76_15 (retQ C76r (fun r F => ∃ r1, r = .tup [r1, .bool (M.store addr n w).2] ∧ OwnR h (M.store addr n w).1 r1 F)) [(1, .int .u32 addr.toNat), (8, .ptr c8 0), (10, .ptr c10 0)]
          H := by
      intro c8 c10 bw cw sw bg cg sg pw pg H l hB m10 m8 mw mg ⟨n1, n2, n3, n4, n5, n6⟩
      obtain ⟨H4, hH4⟩ : ∃ H4, H = H4 := ⟨_, rfl⟩
      have f10 : h c10 = none := hB.new _ m10
      have f8 : h c8 = none := hB.new _ m8
      have fw : h bw = none := hB.new _ mw
      have fg : h bg = none := hB.new _ mg
      have s4 : Sub h H4 := hH4 ▸ hB.sub
      have g10 := hB.at m10
      have g8 := hB.at m8
      have gw := hB.at mw
      have gg := hB.at mg
      rw [hH4] at g10 g8 gw gg
      have b1 := row_b pw M.w p hpl
      have b2 := rset_b pw M.w p false
      have q1 := row_q pg M.g p hpl2
      have q2 := rset_q pg M.g p (M.g.getD p 0#64 + 1#64)
      rw [hH4]
      clear hH4
      have hP : (M.put k (leB w n)).b = M.b.take k ++ leB w n ++ M.b.drop (k + n) := by simp [IRam.put, hll]
      have pa3 : ∀ a b c : AV, partOf [a, b, c] 0 (some 3) = some (.agg [a, b, c]) := fun _ _ _ => rfl
      have u1 : ∀ (H : Heap) X, upd H bw X c10 = H c10 := fun H X => upd_ne n4
      have u2 : ∀ (H : Heap) X, upd H bw X c8 = H c8 := fun H X => upd_ne n2
      have u3 : ∀ (H : Heap) X, upd H bw X bg = H bg := fun H X => upd_ne (Ne.symm n6)
      have u4 : ∀ (H : Heap) X, upd H bg X c10 = H c10 := fun H X => upd_ne n5
      have u5 : ∀ (H : Heap) X, upd H bg X c8 = H c8 := fun H X => upd_ne n3
      have u6 : ∀ (H : Heap) X, upd H bg X bw = H bw := fun H X => upd_ne n6
      have u7 : ∀ (H : Heap) X, upd H c8 X bw = H bw := fun H X => upd_ne (Ne.symm n2)
      have u8 : ∀ (H : Heap) X, upd H c8 X bg = H bg := fun H X => upd_ne (Ne.symm n3)
      have lb1 : pw.length + p + 1 ≤ (pw ++ bos M.w).length := by simp [bos]; omega
      have lb2 : pg.length + p + 1 ≤ (pg ++ qws M.g).length := by simp [qws]; omega
      cases hit : M.w.getD p false with
      | false =>
        rw [hit, if_neg (by simp)] at hS
        rw [hS]
        simp (disch := omega) only [push_cast, simprocAttr, wrap_i64, toNat_ofInt64, Nat.min_eq_left, Int.toNat_of_nonneg, hk', hp', g10, g8, gw, gg, b1, b2, q1, q2, hit, pa3, u1, u2, u3, u4, u5, u6, u7, u8]
        refine ⟨hpl, _, rfl, bw, pw, cw, sw, bg, pg, cg, sg, by rw [hP]; rfl, by rw [upd_ne (Ne.symm n2)]; exact gw, by rw [upd_ne (Ne.symm n3)]; exact gg, n6, ⟨fw, fg⟩, s4.set f8⟩
      | true =>
        rw [hit, if_pos rfl] at hS
        rw [hS]
        simp (disch := omega) only [push_cast, simprocAttr, wrap_i64, toNat_ofInt64, Nat.min_eq_left, Int.toNat_of_nonneg, hk', hp', g10, g8, gw, gg, b1, b2, q1, q2, hit, pa3, u1, u2, u3, u4, u5, u6, u7, u8]
        refine ⟨hpl, hpl, lb1, hpl2, hpl2, lb2, _, rfl, bw, pw, cw, sw, bg, pg, cg, sg, by rw [hP]; simp, ?_, ?_, n6, ⟨fw, fg⟩, ((s4.set fw).set fg).set f8⟩
        · rw [upd_ne (Ne.symm n2), upd_ne n6, upd_same]
        · rw [upd_ne (Ne.symm n3), upd_same]
    obtain ⟨T, hX, hW⟩ : ∃ T, C76_1 = ACode.dregt (opsOf C76_1) (edgOf C76_1) (.r 0 (.r 1 (.r 2 (.r 3 (.r 4 (.r 8 (.r 9 (.r 12 (.r 13 T))))))))) ∧
        wlk [5, 6, 7, 10, 11, 14, 15, 16, 17] [0, 1, 2, 3, 4, 8, 9, 12, 13] [15] (fun i => if i = 6 then [5] else if i = 10 then [7] else if i = 14 then [11] else if i = 15 then [6, 10, 14] else if i = 17 then [15, 16] else []) T [] = true := ⟨_, rfl, by decide⟩
    refine Spec.walk C76ok rfl ?_
    show wpc _ _ _ (.seq [1, 2, 3, 4, 8] C76_0 (.seq [1, 8, 10] C76_1 C76_15)) _ _ _
    generalize hY : C76_1 = Y
    simp only [push_cast, simprocAttr, rm0, rm1, rm2, rml]
    intro c8 hc8
    have B0 := (Bag.start h).alloc ⟨[.nils, .nils, .nils], 0⟩ hc8
    obtain ⟨H0, hH0⟩ : ∃ H0, upd h c8 ⟨[.nils, .nils, .nils], 0⟩ = H0 := ⟨_, rfl⟩
    rw [hH0] at B0 ⊢
    clear hH0
    have rP : ∀ H : Heap, Spec Tryz.prog G 88 [byt M.b, .int .u32 addr.toNat, byt (leB w n)] H (Is (byt (M.b.take k ++ leB w n ++ M.b.drop (k + n))) H) := fun H => by
      have := rPut_spec (G := G) (h := H) M.b (leB w n) addr (by omega) (by omega) (by omega)
      rw [hk, hll] at this
      exact this
    have lw : (bos M.w).length = M.w.length := bos_len _
    have lg : (qws M.g).length = M.g.length := qws_len _
    have tk1 : (bos M.w).take M.w.length = bos M.w := List.take_of_length_le (by omega)
    have tk2 : (qws M.g).take M.g.length = qws M.g := List.take_of_length_le (by omega)
    rw [← hY, hX, wpc_dregt]
    clear hY hX
    simp only [push_cast, simprocAttr, rm0, rm1, rm2, rml, opsOf]
    refine dwpT_inv (I := fun pre ρ H => ∃ b19 bw cw sw b23 bg cg sg c10 pw pg, SI h M addr w n (M.b.take k ++ leB w n ++ M.b.drop (k + n)) c8 b19 bw cw sw b23 bg cg sg c10 pw pg pre ρ H) ?_ ?_ T [] _ _ hW ⟨0, 0, 0, 0, 0, 0, 0, 0, 0, [], [], ?_⟩
    · intro i hi fl pre ρ H K hfl hni hD hI hK
      obtain ⟨b19, bw, cw, sw, b23, bg, cg, sg, c10, pw, pg, hI⟩ := hI
      have hst : ∀ H', stb G (opsOf C76_1) ρ H' fl := fun H' => stb_of (S := fl) (fun j hj => by
        have z := hfl j hj
        simp only [List.mem_cons, List.not_mem_nil, or_false] at z
        rcases z with (rfl | rfl | rfl | rfl | rfl | rfl | rfl | rfl | rfl) | ⟨rfl, hm⟩
        all_goals simp only [opsOf, List.getElem?_cons_succ, List.getElem?_cons_zero, bindO, pend, gd]
        all_goals try simp only [push_cast, simprocAttr, hI.k1, hI.k8, hI.k12, hI.k13, hI.k14, hI.k15, hI.k16, hI.k4, hI.k2, hI.k3, hI.k20, hI.k21, hI.k24, hI.k25, rm0, rm1, rm2, rml]
        have z := hI.d15 hm
        simp only [push_cast, simprocAttr, hI.f6 z.1, hI.f10 z.2.1, hI.f14 z.2.2, hI.f15 hm]) fl (fun j hj => hj)
      simp only [opsOf] at hst
      simp only [List.mem_cons, List.not_mem_nil, or_false] at hi
      rcases hi with rfl | rfl | rfl | rfl | rfl | rfl | rfl | rfl | rfl
      · -- 5
        simp (disch := omega) only [push_cast, simprocAttr, wrap_i64, toNat_ofInt64, Nat.min_eq_left, Int.toNat_of_nonneg, hI.k1, hI.k8, hI.k12, hI.k13, hI.k14, hI.k15, hI.k16, hI.k4, hI.k2, hI.k3, hI.k20, hI.k21, hI.k24, hI.k25, rm0, rm1, rm2, rml, lw, lg, tk1, tk2]
        refine (rBytes_spec w n (by omega)).to ?_
        simp (disch := omega) only [push_cast, simprocAttr, wrap_i64, toNat_ofInt64, Nat.min_eq_left, Int.toNat_of_nonneg, hI.k1, hI.k8, hI.k12, hI.k13, hI.k14, hI.k15, hI.k16, hI.k4, hI.k2, hI.k3, hI.k20, hI.k21, hI.k24, hI.k25, rm0, rm1, rm2, rml, lw, lg, tk1, tk2]
        exact ⟨hst _, hK _ _ ⟨b19, bw, cw, sw, b23, bg, cg, sg, c10, pw, pg, {
              k1 := (by simpa [lk, put] using hI.k1),
              k8 := (by simpa [lk, put] using hI.k8),
              k12 := (by simpa [lk, put] using hI.k12),
              k13 := (by simpa [lk, put] using hI.k13),
              k14 := (by simpa [lk, put] using hI.k14),
              k15 := (by simpa [lk, put] using hI.k15),
              k16 := (by simpa [lk, put] using hI.k16),
              k4 := (by simpa [lk, put] using hI.k4),
              k2 := (by simpa [lk, put] using hI.k2),
              k3 := (by simpa [lk, put] using hI.k3),
              k20 := (by simpa [lk, put] using hI.k20),
              k21 := (by simpa [lk, put] using hI.k21),
              k24 := (by simpa [lk, put] using hI.k24),
              k25 := (by simpa [lk, put] using hI.k25),
              f5 := fun _ => (by simp [lk, put]),
              f6 := fun q => (by have z := hI.f6 (by simpa using q); simpa [lk, put] using z),
              f7 := fun q => (by have z := hI.f7 (by simpa using q); simpa [lk, put] using z),
              f10 := fun q => (by have z := hI.f10 (by simpa using q); simpa [lk, put] using z),
              f11 := fun q => (by have z := hI.f11 (by simpa using q); simpa [lk, put] using z),
              f14 := fun q => (by have z := hI.f14 (by simpa using q); simpa [lk, put] using z),
              f15 := fun q => (by have z := hI.f15 (by simpa using q); simpa [lk, put] using z),
              f16 := fun q => (by have z := hI.f16 (by simpa using q); simpa [lk, put] using z),
              d10 := fun q => (by have z := hI.d10; simp only [List.mem_cons] at q ⊢; grind),
              d14 := fun q => (by have z := hI.d14; simp only [List.mem_cons] at q ⊢; grind),
              d15 := fun q => (by have z := hI.d15; simp only [List.mem_cons] at q ⊢; grind),
              d17 := fun q => (by have z := hI.d17; simp only [List.mem_cons] at q ⊢; grind),
              bag := (by have z := hI.bag; simpa using z) }⟩⟩
      · -- 6
        have z5 := hI.f5 (hD 5 (by simp))
        simp (disch := omega) only [push_cast, simprocAttr, wrap_i64, toNat_ofInt64, Nat.min_eq_left, Int.toNat_of_nonneg, hI.k1, hI.k8, hI.k12, hI.k13, hI.k14, hI.k15, hI.k16, hI.k4, hI.k2, hI.k3, hI.k20, hI.k21, hI.k24, hI.k25, rm0, rm1, rm2, rml, lw, lg, tk1, tk2, z5]
        refine (rP _).to ?_
        simp (disch := omega) only [push_cast, simprocAttr, wrap_i64, toNat_ofInt64, Nat.min_eq_left, Int.toNat_of_nonneg, hI.k1, hI.k8, hI.k12, hI.k13, hI.k14, hI.k15, hI.k16, hI.k4, hI.k2, hI.k3, hI.k20, hI.k21, hI.k24, hI.k25, rm0, rm1, rm2, rml, lw, lg, tk1, tk2, z5]
        exact ⟨hst _, hK _ _ ⟨b19, bw, cw, sw, b23, bg, cg, sg, c10, pw, pg, {
              k1 := (by simpa [lk, put] using hI.k1),
              k8 := (by simpa [lk, put] using hI.k8),
              k12 := (by simpa [lk, put] using hI.k12),
              k13 := (by simpa [lk, put] using hI.k13),
              k14 := (by simpa [lk, put] using hI.k14),
              k15 := (by simpa [lk, put] using hI.k15),
              k16 := (by simpa [lk, put] using hI.k16),
              k4 := (by simpa [lk, put] using hI.k4),
              k2 := (by simpa [lk, put] using hI.k2),
              k3 := (by simpa [lk, put] using hI.k3),
              k20 := (by simpa [lk, put] using hI.k20),
              k21 := (by simpa [lk, put] using hI.k21),
              k24 := (by simpa [lk, put] using hI.k24),
              k25 := (by simpa [lk, put] using hI.k25),
              f5 := fun q => (by have z := hI.f5 (by simpa using q); simpa [lk, put] using z),
              f6 := fun _ => (by simp [lk, put]),
              f7 := fun q => (by have z := hI.f7 (by simpa using q); simpa [lk, put] using z),
              f10 := fun q => (by have z := hI.f10 (by simpa using q); simpa [lk, put] using z),
              f11 := fun q => (by have z := hI.f11 (by simpa using q); simpa [lk, put] using z),
              f14 := fun q => (by have z := hI.f14 (by simpa using q); simpa [lk, put] using z),
              f15 := fun q => (by have z := hI.f15 (by simpa using q); simpa [lk, put] using z),
              f16 := fun q => (by have z := hI.f16 (by simpa using q); simpa [lk, put] using z),
              d10 := fun q => (by have z := hI.d10; simp only [List.mem_cons] at q ⊢; grind),
              d14 := fun q => (by have z := hI.d14; simp only [List.mem_cons] at q ⊢; grind),
              d15 := fun q => (by have z := hI.d15; simp only [List.mem_cons] at q ⊢; grind),
              d17 := fun q => (by have z := hI.d17; simp only [List.mem_cons] at q ⊢; grind),
              bag := (by have z := hI.bag; simpa using z) }⟩⟩
      · -- 7
        simp (disch := omega) only [push_cast, simprocAttr, wrap_i64, toNat_ofInt64, Nat.min_eq_left, Int.toNat_of_nonneg, hI.k1, hI.k8, hI.k12, hI.k13, hI.k14, hI.k15, hI.k16, hI.k4, hI.k2, hI.k3, hI.k20, hI.k21, hI.k24, hI.k25, rm0, rm1, rm2, rml, lw, lg, tk1, tk2]
        intro b hb
        have n10 : 10 ∉ pre := fun q => hni (hI.d10 q)
        have z := hI.bag.alloc ⟨[], 0⟩ hb
        rw [if_neg n10, if_neg hni] at z
        exact ⟨hst _, hK _ _ ⟨b, bw, cw, sw, b23, bg, cg, sg, c10, pw, pg, {
              k1 := (by simpa [lk, put] using hI.k1),
              k8 := (by simpa [lk, put] using hI.k8),
              k12 := (by simpa [lk, put] using hI.k12),
              k13 := (by simpa [lk, put] using hI.k13),
              k14 := (by simpa [lk, put] using hI.k14),
              k15 := (by simpa [lk, put] using hI.k15),
              k16 := (by simpa [lk, put] using hI.k16),
              k4 := (by simpa [lk, put] using hI.k4),
              k2 := (by simpa [lk, put] using hI.k2),
              k3 := (by simpa [lk, put] using hI.k3),
              k20 := (by simpa [lk, put] using hI.k20),
              k21 := (by simpa [lk, put] using hI.k21),
              k24 := (by simpa [lk, put] using hI.k24),
              k25 := (by simpa [lk, put] using hI.k25),
              f5 := fun q => (by have z := hI.f5 (by simpa using q); simpa [lk, put] using z),
              f6 := fun q => (by have z := hI.f6 (by simpa using q); simpa [lk, put] using z),
              f7 := fun _ => (by simp [lk, put]),
              f10 := fun q => (by have z := hI.f10 (by simpa using q); simpa [lk, put] using z),
              f11 := fun q => (by have z := hI.f11 (by simpa using q); simpa [lk, put] using z),
              f14 := fun q => (by have z := hI.f14 (by simpa using q); simpa [lk, put] using z),
              f15 := fun q => (by have z := hI.f15 (by simpa using q); simpa [lk, put] using z),
              f16 := fun q => (by have z := hI.f16 (by simpa using q); simpa [lk, put] using z),
              d10 := fun q => (by have z := hI.d10; simp only [List.mem_cons] at q ⊢; grind),
              d14 := fun q => (by have z := hI.d14; simp only [List.mem_cons] at q ⊢; grind),
              d15 := fun q => (by have z := hI.d15; simp only [List.mem_cons] at q ⊢; grind),
              d17 := fun q => (by have z := hI.d17; simp only [List.mem_cons] at q ⊢; grind),
              bag := (by simpa [n10] using z) }⟩⟩
      · -- 10
        have z7 := hI.f7 (hD 7 (by simp))
        simp (disch := omega) only [push_cast, simprocAttr, wrap_i64, toNat_ofInt64, Nat.min_eq_left, Int.toNat_of_nonneg, hI.k1, hI.k8, hI.k12, hI.k13, hI.k14, hI.k15, hI.k16, hI.k4, hI.k2, hI.k3, hI.k20, hI.k21, hI.k24, hI.k25, rm0, rm1, rm2, rml, lw, lg, tk1, tk2, z7]
        have m7 := hD 7 (by simp)
        have n15 : 15 ∉ pre := fun q => hni (hI.d15 q).2.1
        have n17 : 17 ∉ pre := fun q => n15 (hI.d17 q).1
        have z := hI.bag
        rw [if_neg hni, if_pos m7, if_neg n17] at z
        refine appQ_new z (.refl _) (by omega) (by omega) ?_
        intro b' pre' cap' sp' H' hB'
        exact ⟨hst _, hK _ _ ⟨b19, b', cap', sp', b23, bg, cg, sg, c10, pre', pg, {
              k1 := (by simpa [lk, put] using hI.k1),
              k8 := (by simpa [lk, put] using hI.k8),
              k12 := (by simpa [lk, put] using hI.k12),
              k13 := (by simpa [lk, put] using hI.k13),
              k14 := (by simpa [lk, put] using hI.k14),
              k15 := (by simpa [lk, put] using hI.k15),
              k16 := (by simpa [lk, put] using hI.k16),
              k4 := (by simpa [lk, put] using hI.k4),
              k2 := (by simpa [lk, put] using hI.k2),
              k3 := (by simpa [lk, put] using hI.k3),
              k20 := (by simpa [lk, put] using hI.k20),
              k21 := (by simpa [lk, put] using hI.k21),
              k24 := (by simpa [lk, put] using hI.k24),
              k25 := (by simpa [lk, put] using hI.k25),
              f5 := fun q => (by have z := hI.f5 (by simpa using q); simpa [lk, put] using z),
              f6 := fun q => (by have z := hI.f6 (by simpa using q); simpa [lk, put] using z),
              f7 := fun q => (by have z := hI.f7 (by simpa using q); simpa [lk, put] using z),
              f10 := fun _ => (by simp [lk, put]),
              f11 := fun q => (by have z := hI.f11 (by simpa using q); simpa [lk, put] using z),
              f14 := fun q => (by have z := hI.f14 (by simpa using q); simpa [lk, put] using z),
              f15 := fun q => (absurd (by simpa using q) n15),
              f16 := fun q => (by have z := hI.f16 (by simpa using q); simpa [lk, put] using z),
              d10 := fun q => (by have z := hI.d10; simp only [List.mem_cons] at q ⊢; grind),
              d14 := fun q => (by have z := hI.d14; simp only [List.mem_cons] at q ⊢; grind),
              d15 := fun q => (by have z := hI.d15; simp only [List.mem_cons] at q ⊢; grind),
              d17 := fun q => (by have z := hI.d17; simp only [List.mem_cons] at q ⊢; grind),
              bag := (by simpa [n17, n15] using hB') }⟩⟩
      · -- 11
        simp (disch := omega) only [push_cast, simprocAttr, wrap_i64, toNat_ofInt64, Nat.min_eq_left, Int.toNat_of_nonneg, hI.k1, hI.k8, hI.k12, hI.k13, hI.k14, hI.k15, hI.k16, hI.k4, hI.k2, hI.k3, hI.k20, hI.k21, hI.k24, hI.k25, rm0, rm1, rm2, rml, lw, lg, tk1, tk2]
        intro b hb
        have n14 : 14 ∉ pre := fun q => hni (hI.d14 q)
        have z := hI.bag.alloc ⟨[], 0⟩ hb
        rw [if_neg n14, if_neg hni] at z
        have z := z.perm (List.perm_middle (l₂ := _)).symm
        exact ⟨hst _, hK _ _ ⟨b19, bw, cw, sw, b, bg, cg, sg, c10, pw, pg, {
              k1 := (by simpa [lk, put] using hI.k1),
              k8 := (by simpa [lk, put] using hI.k8),
              k12 := (by simpa [lk, put] using hI.k12),
              k13 := (by simpa [lk, put] using hI.k13),
              k14 := (by simpa [lk, put] using hI.k14),
              k15 := (by simpa [lk, put] using hI.k15),
              k16 := (by simpa [lk, put] using hI.k16),
              k4 := (by simpa [lk, put] using hI.k4),
              k2 := (by simpa [lk, put] using hI.k2),
              k3 := (by simpa [lk, put] using hI.k3),
              k20 := (by simpa [lk, put] using hI.k20),
              k21 := (by simpa [lk, put] using hI.k21),
              k24 := (by simpa [lk, put] using hI.k24),
              k25 := (by simpa [lk, put] using hI.k25),
              f5 := fun q => (by have z := hI.f5 (by simpa using q); simpa [lk, put] using z),
              f6 := fun q => (by have z := hI.f6 (by simpa using q); simpa [lk, put] using z),
              f7 := fun q => (by have z := hI.f7 (by simpa using q); simpa [lk, put] using z),
              f10 := fun q => (by have z := hI.f10 (by simpa using q); simpa [lk, put] using z),
              f11 := fun _ => (by simp [lk, put]),
              f14 := fun q => (by have z := hI.f14 (by simpa using q); simpa [lk, put] using z),
              f15 := fun q => (by have z := hI.f15 (by simpa using q); simpa [lk, put] using z),
              f16 := fun q => (by have z := hI.f16 (by simpa using q); simpa [lk, put] using z),
              d10 := fun q => (by have z := hI.d10; simp only [List.mem_cons] at q ⊢; grind),
              d14 := fun q => (by have z := hI.d14; simp only [List.mem_cons] at q ⊢; grind),
              d15 := fun q => (by have z := hI.d15; simp only [List.mem_cons] at q ⊢; grind),
              d17 := fun q => (by have z := hI.d17; simp only [List.mem_cons] at q ⊢; grind),
              bag := (by simpa [n14] using z) }⟩⟩
      · -- 14
        have z11 := hI.f11 (hD 11 (by simp))
        simp (disch := omega) only [push_cast, simprocAttr, wrap_i64, toNat_ofInt64, Nat.min_eq_left, Int.toNat_of_nonneg, hI.k1, hI.k8, hI.k12, hI.k13, hI.k14, hI.k15, hI.k16, hI.k4, hI.k2, hI.k3, hI.k20, hI.k21, hI.k24, hI.k25, rm0, rm1, rm2, rml, lw, lg, tk1, tk2, z11]
        have m11 := hD 11 (by simp)
        have n15 : 15 ∉ pre := fun q => hni (hI.d15 q).2.2
        have n17 : 17 ∉ pre := fun q => n15 (hI.d17 q).1
        have z := hI.bag
        rw [if_neg hni, if_pos m11, if_neg n17] at z
        refine appQ_new z List.perm_middle (by omega) (by omega) ?_
        intro b' pre' cap' sp' H' hB'
        have hB' := hB'.perm (List.perm_middle (l₂ := _)).symm
        exact ⟨hst _, hK _ _ ⟨b19, bw, cw, sw, b23, b', cap', sp', c10, pw, pre', {
              k1 := (by simpa [lk, put] using hI.k1),
              k8 := (by simpa [lk, put] using hI.k8),
              k12 := (by simpa [lk, put] using hI.k12),
              k13 := (by simpa [lk, put] using hI.k13),
              k14 := (by simpa [lk, put] using hI.k14),
              k15 := (by simpa [lk, put] using hI.k15),
              k16 := (by simpa [lk, put] using hI.k16),
              k4 := (by simpa [lk, put] using hI.k4),
              k2 := (by simpa [lk, put] using hI.k2),
              k3 := (by simpa [lk, put] using hI.k3),
              k20 := (by simpa [lk, put] using hI.k20),
              k21 := (by simpa [lk, put] using hI.k21),
              k24 := (by simpa [lk, put] using hI.k24),
              k25 := (by simpa [lk, put] using hI.k25),
              f5 := fun q => (by have z := hI.f5 (by simpa using q); simpa [lk, put] using z),
              f6 := fun q => (by have z := hI.f6 (by simpa using q); simpa [lk, put] using z),
              f7 := fun q => (by have z := hI.f7 (by simpa using q); simpa [lk, put] using z),
              f10 := fun q => (by have z := hI.f10 (by simpa using q); simpa [lk, put] using z),
              f11 := fun q => (by have z := hI.f11 (by simpa using q); simpa [lk, put] using z),
              f14 := fun _ => (by simp [lk, put]),
              f15 := fun q => (absurd (by simpa using q) n15),
              f16 := fun q => (by have z := hI.f16 (by simpa using q); simpa [lk, put] using z),
              d10 := fun q => (by have z := hI.d10; simp only [List.mem_cons] at q ⊢; grind),
              d14 := fun q => (by have z := hI.d14; simp only [List.mem_cons] at q ⊢; grind),
              d15 := fun q => (by have z := hI.d15; simp only [List.mem_cons] at q ⊢; grind),
              d17 := fun q => (by have z := hI.d17; simp only [List.mem_cons] at q ⊢; grind),
              bag := (by simpa [n17, n15] using hB') }⟩⟩
      · -- 15
        have z6 := hI.f6 (hD 6 (by simp))
        have z10 := hI.f10 (hD 10 (by simp))
        have z14 := hI.f14 (hD 14 (by simp))
        simp (disch := omega) only [push_cast, simprocAttr, wrap_i64, toNat_ofInt64, Nat.min_eq_left, Int.toNat_of_nonneg, hI.k1, hI.k8, hI.k12, hI.k13, hI.k14, hI.k15, hI.k16, hI.k4, hI.k2, hI.k3, hI.k20, hI.k21, hI.k24, hI.k25, rm0, rm1, rm2, rml, lw, lg, tk1, tk2, z6, z10, z14]
        exact (hK _ _ ⟨b19, bw, cw, sw, b23, bg, cg, sg, c10, pw, pg, {
              k1 := (by simpa [lk, put] using hI.k1),
              k8 := (by simpa [lk, put] using hI.k8),
              k12 := (by simpa [lk, put] using hI.k12),
              k13 := (by simpa [lk, put] using hI.k13),
              k14 := (by simpa [lk, put] using hI.k14),
              k15 := (by simpa [lk, put] using hI.k15),
              k16 := (by simpa [lk, put] using hI.k16),
              k4 := (by simpa [lk, put] using hI.k4),
              k2 := (by simpa [lk, put] using hI.k2),
              k3 := (by simpa [lk, put] using hI.k3),
              k20 := (by simpa [lk, put] using hI.k20),
              k21 := (by simpa [lk, put] using hI.k21),
              k24 := (by simpa [lk, put] using hI.k24),
              k25 := (by simpa [lk, put] using hI.k25),
              f5 := fun q => (by have z := hI.f5 (by simpa using q); simpa [lk, put] using z),
              f6 := fun q => (by have z := hI.f6 (by simpa using q); simpa [lk, put] using z),
              f7 := fun q => (by have z := hI.f7 (by simpa using q); simpa [lk, put] using z),
              f10 := fun q => (by have z := hI.f10 (by simpa using q); simpa [lk, put] using z),
              f11 := fun q => (by have z := hI.f11 (by simpa using q); simpa [lk, put] using z),
              f14 := fun q => (by have z := hI.f14 (by simpa using q); simpa [lk, put] using z),
              f15 := fun _ => (by simp [lk, put]),
              f16 := fun q => (by have z := hI.f16 (by simpa using q); simpa [lk, put] using z),
              d10 := fun q => (by have z := hI.d10; simp only [List.mem_cons] at q ⊢; grind),
              d14 := fun q => (by have z := hI.d14; simp only [List.mem_cons] at q ⊢; grind),
              d15 := fun q => (by have z := hI.d15; simp only [List.mem_cons] at q ⊢; grind),
              d17 := fun q => (by have z := hI.d17; simp only [List.mem_cons] at q ⊢; grind),
              bag := (by have z := hI.bag; simpa using z) }⟩)
      · -- 16
        simp (disch := omega) only [push_cast, simprocAttr, wrap_i64, toNat_ofInt64, Nat.min_eq_left, Int.toNat_of_nonneg, hI.k1, hI.k8, hI.k12, hI.k13, hI.k14, hI.k15, hI.k16, hI.k4, hI.k2, hI.k3, hI.k20, hI.k21, hI.k24, hI.k25, rm0, rm1, rm2, rml, lw, lg, tk1, tk2]
        intro b hb
        have n17 : 17 ∉ pre := fun q => hni (hI.d17 q).2
        have z := hI.bag.alloc ⟨[.nils, .nils, .nils], 0⟩ hb
        rw [if_neg n17, if_neg hni] at z
        rw [← List.append_assoc] at z
        have z := z.perm (List.perm_middle (l₂ := _)).symm
        rw [List.append_assoc] at z
        exact ⟨hst _, hK _ _ ⟨b19, bw, cw, sw, b23, bg, cg, sg, b, pw, pg, {
              k1 := (by simpa [lk, put] using hI.k1),
              k8 := (by simpa [lk, put] using hI.k8),
              k12 := (by simpa [lk, put] using hI.k12),
              k13 := (by simpa [lk, put] using hI.k13),
              k14 := (by simpa [lk, put] using hI.k14),
              k15 := (by simpa [lk, put] using hI.k15),
              k16 := (by simpa [lk, put] using hI.k16),
              k4 := (by simpa [lk, put] using hI.k4),
              k2 := (by simpa [lk, put] using hI.k2),
              k3 := (by simpa [lk, put] using hI.k3),
              k20 := (by simpa [lk, put] using hI.k20),
              k21 := (by simpa [lk, put] using hI.k21),
              k24 := (by simpa [lk, put] using hI.k24),
              k25 := (by simpa [lk, put] using hI.k25),
              f5 := fun q => (by have z := hI.f5 (by simpa using q); simpa [lk, put] using z),
              f6 := fun q => (by have z := hI.f6 (by simpa using q); simpa [lk, put] using z),
              f7 := fun q => (by have z := hI.f7 (by simpa using q); simpa [lk, put] using z),
              f10 := fun q => (by have z := hI.f10 (by simpa using q); simpa [lk, put] using z),
              f11 := fun q => (by have z := hI.f11 (by simpa using q); simpa [lk, put] using z),
              f14 := fun q => (by have z := hI.f14 (by simpa using q); simpa [lk, put] using z),
              f15 := fun q => (by have z := hI.f15 (by simpa using q); simpa [lk, put] using z),
              f16 := fun _ => (by simp [lk, put]),
              d10 := fun q => (by have z := hI.d10; simp only [List.mem_cons] at q ⊢; grind),
              d14 := fun q => (by have z := hI.d14; simp only [List.mem_cons] at q ⊢; grind),
              d15 := fun q => (by have z := hI.d15; simp only [List.mem_cons] at q ⊢; grind),
              d17 := fun q => (by have z := hI.d17; simp only [List.mem_cons] at q ⊢; grind),
              bag := (by simpa [n17] using z) }⟩⟩
      · -- 17
        have z15 := hI.f15 (hD 15 (by simp))
        have z16 := hI.f16 (hD 16 (by simp))
        have z := hI.bag
        have m16 := hD 16 (by simp)
        rw [if_neg hni, if_pos m16, ← List.append_assoc] at z
        have z := (z.perm List.perm_middle).set ⟨[byt (M.b.take k ++ leB w n ++ M.b.drop (k + n)), .sl bw (List.length pw) M.w.length cw, .sl bg (List.length pg) M.g.length cg], 0⟩
        have e10 : H c10 = some ⟨[.nils, .nils, .nils], 0⟩ := hI.bag.at (by simp [hni, m16])
        simp (disch := omega) only [push_cast, simprocAttr, wrap_i64, toNat_ofInt64, Nat.min_eq_left, Int.toNat_of_nonneg, hI.k1, hI.k8, hI.k12, hI.k13, hI.k14, hI.k15, hI.k16, hI.k4, hI.k2, hI.k3, hI.k20, hI.k21, hI.k24, hI.k25, rm0, rm1, rm2, rml, lw, lg, tk1, tk2, z15, z16, e10]
        have z := z.perm (List.perm_middle (l₂ := _)).symm
        rw [List.append_assoc] at z
        exact ⟨hst _, hK _ _ ⟨b19, bw, cw, sw, b23, bg, cg, sg, c10, pw, pg, {
              k1 := (by simpa [lk, put] using hI.k1),
              k8 := (by simpa [lk, put] using hI.k8),
              k12 := (by simpa [lk, put] using hI.k12),
              k13 := (by simpa [lk, put] using hI.k13),
              k14 := (by simpa [lk, put] using hI.k14),
              k15 := (by simpa [lk, put] using hI.k15),
              k16 := (by simpa [lk, put] using hI.k16),
              k4 := (by simpa [lk, put] using hI.k4),
              k2 := (by simpa [lk, put] using hI.k2),
              k3 := (by simpa [lk, put] using hI.k3),
              k20 := (by simpa [lk, put] using hI.k20),
              k21 := (by simpa [lk, put] using hI.k21),
              k24 := (by simpa [lk, put] using hI.k24),
              k25 := (by simpa [lk, put] using hI.k25),
              f5 := fun q => (by have z := hI.f5 (by simpa using q); simpa [lk, put] using z),
              f6 := fun q => (by have z := hI.f6 (by simpa using q); simpa [lk, put] using z),
              f7 := fun q => (by have z := hI.f7 (by simpa using q); simpa [lk, put] using z),
              f10 := fun q => (by have z := hI.f10 (by simpa using q); simpa [lk, put] using z),
              f11 := fun q => (by have z := hI.f11 (by simpa using q); simpa [lk, put] using z),
              f14 := fun q => (by have z := hI.f14 (by simpa using q); simpa [lk, put] using z),
              f15 := fun q => (by have z := hI.f15 (by simpa using q); simpa [lk, put] using z),
              f16 := fun q => (by have z := hI.f16 (by simpa using q); simpa [lk, put] using z),
              d10 := fun q => (by have z := hI.d10; simp only [List.mem_cons] at q ⊢; grind),
              d14 := fun q => (by have z := hI.d14; simp only [List.mem_cons] at q ⊢; grind),
              d15 := fun q => (by have z := hI.d15; simp only [List.mem_cons] at q ⊢; grind),
              d17 := fun q => (by have z := hI.d17; simp only [List.mem_cons] at q ⊢; grind),
              bag := (by simpa using z) }⟩⟩
    · intro pre ρ H hall hI
      obtain ⟨b19, bw, cw, sw, b23, bg, cg, sg, c10, pw, pg, hI⟩ := hI
      have hb := hI.bag
      rw [if_pos (hall 10 (by simp)), if_pos (hall 14 (by simp)), if_pos (hall 17 (by simp))] at hb
      have hk1 : keep [1, 8, 10] ρ = [(1, .int .u32 addr.toNat), (8, .ptr c8 0), (10, .ptr c10 0)] := by simp only [keep, List.map_cons, List.map_nil, hI.k1, hI.k8, hI.f16 (hall 16 (by simp))]
      have hnd := hb.nd
      simp only [List.cons_append, List.nil_append, List.map_cons, List.map_nil, List.nodup_cons, List.mem_cons, List.not_mem_nil, or_false, not_or] at hnd
      have := tail c8 c10 bw cw sw bg cg sg pw pg H _ hb (by simp) (by simp) (by simp) (by simp) (by omega)
      rw [← hk1] at this
      exact this
    · constructor <;> first | rfl | (intro q; cases q) | exact B0
  · rintro _ F ⟨r1, rfl, ho⟩
    exact ⟨_, _, ⟨rfl, rfl⟩, Le.tupb ho.le⟩
end
end Go.Ab
end
section
/- The document's answer for a block, done: an exit, taken. -/
set_option linter.unusedSimpArgs false
set_option linter.unusedVariables false
set_option maxRecDepth 10000
namespace Go.Ab
open Go.Proofs
variable {G : Glo} {h : Heap}
def VV (H : Heap) (vv : AV) (vals : List (BitVec 32)) : Prop := ∃ c pre cap sp, vv = .sl c (List.length pre) vals.length cap ∧ H c = some ⟨pre ++ wds vals, sp⟩
def oT (regs : List (BitVec 32)) (pc : BitVec 32) (done why exit : Int) (T : List AV) : List AV := outC regs pc done why exit ++ T
section
variable {regs : List (BitVec 32)} {pc : BitVec 32} {done why exit : Int} {T : List AV}
theorem oT_len (hl : regs.length = 32) (ht : T.length = 3) : (oT regs pc done why exit T).length = 39 := by simp [oT, oc_len hl, ht]
theorem oT_z (hl : regs.length = 32) : splice [.int .u32 0, .int .u32 0, .int .u32 0, .int .u32 0, .int .u32 0, .int .u32 0, .int .u32 0, .int .u32 0, .int .u32 0, .int .u32 0, .int .u32 0, .int .u32 0, .int .u32 0, .int .u32 0, .int .u32 0, .int .u32 0, .int .u32 0, .int .u32 0, .int .u32 0, .int .u32 0, .int .u32 0, .int .u32 0, .int .u32 0, .int .u32 0, .int .u32 0, .int .u32 0, .int .u32 0, .int .u32 0, .int .u32 0, .int .u32 0, .int .u32 0, .int .u32 0, .int .u32 0, .int .i64 0, .int .i64 0, .int .i64 0, .nils, .nils, .nils] 0 (wds regs) = oT regs 0 0 0 0 [.nils, .nils, .nils] := by
  have hw : (wds regs).length = 32 := by simp [wds, hl]
  rw [splice_ne (by omega), List.take_zero, List.nil_append, Nat.zero_add, hw, oT, outC, List.append_assoc]
  rfl
theorem oT_set (hl : regs.length = 32) (i : Nat) (hi : i < 32) (w : BitVec 32) : (oT regs pc done why exit T).set i (.int .u32 w.toNat) = oT (regs.set i w) pc done why exit T := by
  rw [oT, List.set_append_left _ _ (by rw [oc_len hl]; omega), oc_set hl i hi]; rfl
theorem oT_32 (hl : regs.length = 32) (w : BitVec 32) : (oT regs pc done why exit T).set 32 (.int .u32 w.toNat) = oT regs w done why exit T := by
  rw [oT, List.set_append_left _ _ (by rw [oc_len hl]; omega), oc_pc hl]; rfl
theorem oT_33 (hl : regs.length = 32) (d : Int) : (oT regs pc done why exit T).set 33 (.int .i64 d) = oT regs pc d why exit T := by
  rw [oT, List.set_append_left _ _ (by rw [oc_len hl]; omega), oc_33 hl]; rfl
theorem oT_34 (hl : regs.length = 32) (d : Int) : (oT regs pc done why exit T).set 34 (.int .i64 d) = oT regs pc done d exit T := by
  rw [oT, List.set_append_left _ _ (by rw [oc_len hl]; omega), oc_34 hl]; rfl
theorem oT_35 (hl : regs.length = 32) (d : Int) : (oT regs pc done why exit T).set 35 (.int .i64 d) = oT regs pc done why d T := by
  rw [oT, List.set_append_left _ _ (by rw [oc_len hl]; omega), oc_35 hl]; rfl
theorem oT_36 (hl : regs.length = 32) (ht : T.length = 3) (U : List AV) (hu : U.length = 3) : splice (oT regs pc done why exit T) 36 U = oT regs pc done why exit U := by
  rw [splice_ne (by omega), oT, hu, List.take_append_of_le_length (by rw [oc_len hl]; omega), List.take_of_length_le (by rw [oc_len hl]; omega), List.drop_of_length_le (by simp [oc_len hl, ht])]
  simp [oT]
theorem oT_all (hl : regs.length = 32) (ht : T.length = 3) : partOf (oT regs pc done why exit T) 0 (some 39) = some (.agg (oT regs pc done why exit T)) := partOf_all (oT_len hl ht)
theorem oT_put (hl : regs.length = 32) (ht : T.length = 3) (Z : List AV) (hz : Z.length = 39) : splice Z 0 (oT regs pc done why exit T) = oT regs pc done why exit T := splice_all' (by rw [oT_len hl ht, hz])
theorem oT_put39 (hl : regs.length = 32) (ht : T.length = 3) : splice [.int .u32 0, .int .u32 0, .int .u32 0, .int .u32 0, .int .u32 0, .int .u32 0, .int .u32 0, .int .u32 0, .int .u32 0, .int .u32 0, .int .u32 0, .int .u32 0, .int .u32 0, .int .u32 0, .int .u32 0, .int .u32 0, .int .u32 0, .int .u32 0, .int .u32 0, .int .u32 0, .int .u32 0, .int .u32 0, .int .u32 0, .int .u32 0, .int .u32 0, .int .u32 0, .int .u32 0, .int .u32 0, .int .u32 0, .int .u32 0, .int .u32 0, .int .u32 0, .int .u32 0, .int .i64 0, .int .i64 0, .int .i64 0, .nils, .nils, .nils] 0 (oT regs pc done why exit T) = oT regs pc done why exit T := splice_all' (by rw [oT_len hl ht]; rfl)
end
def rOut (regs : List (BitVec 32)) (pc : BitVec 32) (done why exit : Int) (M : IRam) : List AV := oT regs pc done why exit M.cells
theorem rleave_spec {H : Heap} {vv : AV} {vals regs : List (BitVec 32)} {M : IRam} (b : IBk) (hv : VV H vv vals) (hlen : regs.length = 32) (n : Int) (h1 : 0 ≤ n) (h2 : n < b.exits.length) (hm : (b.ex n.toNat).map.length ≤ 1000) (he : okEx (b.ex n.toNat) vals.length) :
    Spec Tryz.prog G 73 [.agg b.cells, .int .i64 n, .agg (wds regs), vv, ramV M] H
    (Is (.agg (rOut (leaveR (b.ex n.toNat) regs vals) (leaveP (b.ex n.toNat) vals) (b.ex n.toNat).done (b.ex n.toNat).why n M)) H) := by
  obtain ⟨c, pre, cap, sp, rfl, hc⟩ := hv
  have hx : (b.exits.getD n.toNat IEx.zero) = b.ex n.toNat := rfl
  have hwl : (wds regs).length = 32 := by simp [wds, hlen]
  have hpa : partOf (wds regs) 0 (some 32) = some (.agg (wds regs)) := partOf_all hwl
  have rml : M.cells.length = 3 := rfl
  have rma : partOf M.cells 0 (some 3) = some (.agg M.cells) := partOf_all rml
  generalize b.ex n.toNat = e at *
  refine Spec.is C73ok rfl ?_
  simp only [push_cast, simprocAttr, hwl, rml]
  intro c10 hc10
  obtain ⟨H4, hH4⟩ : ∃ H4, upd H c10 ⟨[.int .u32 0, .int .u32 0, .int .u32 0, .int .u32 0, .int .u32 0, .int .u32 0, .int .u32 0, .int .u32 0, .int .u32 0, .int .u32 0, .int .u32 0, .int .u32 0, .int .u32 0, .int .u32 0, .int .u32 0, .int .u32 0, .int .u32 0, .int .u32 0, .int .u32 0, .int .u32 0, .int .u32 0, .int .u32 0, .int .u32 0, .int .u32 0, .int .u32 0, .int .u32 0, .int .u32 0, .int .u32 0, .int .u32 0, .int .u32 0, .int .u32 0, .int .u32 0, .int .u32 0, .int .i64 0, .int .i64 0, .int .i64 0, .nils, .nils, .nils], 0⟩ = H4 := ⟨_, rfl⟩
  have z4 : ∃ Z : List AV, Z.length = 39 ∧ H4 c10 = some ⟨Z, 0⟩ := ⟨_, rfl, by rw [← hH4, upd_same]⟩
  have n10 : c10 ≠ c := fun e => by rw [e, hc] at hc10; cases hc10
  have s4 : Sub H H4 := hH4 ▸ (Sub.refl H).alloc hc10
  have c4 : H4 c = some ⟨pre ++ wds vals, sp⟩ := s4 c _ hc
  rw [hH4]
  clear hH4
  obtain ⟨Z, hZ, z4⟩ := z4
  refine ⟨⟨h1, h2⟩, by omega, fun c11 hc11 => ?_⟩
  rw [hx, era_none hc11]
  have nl3 : [AV.nils, AV.nils, AV.nils].length = 3 := rfl
  simp only [push_cast, simprocAttr, hwl, rml, hpa, rma, oT_z hlen, oT_len hlen nl3, oT_32 hlen, oT_33 hlen, oT_34 hlen, oT_35 hlen, oT_36 hlen nl3, oT_len hlen rml, oT_put39 hlen rml]
  intro c12 hc12
  have n12 : c12 ≠ c := fun e => by rw [e, c4] at hc12; cases hc12
  have n1210 : c12 ≠ c10 := fun e => by rw [e, z4] at hc12; cases hc12
  have hmap : ∀ i, i < e.map.length → (0 ≤ (e.map.getD i IVl.zero).val ∧ (e.map.getD i IVl.zero).val < vals.length) ∧ 0 ≤ (e.map.getD i IVl.zero).reg ∧ (e.map.getD i IVl.zero).reg ≤ 31 := he.1
  have hsub : ∀ X Y, Sub H (upd (upd H4 c12 X) c10 Y) := fun X Y => (s4.alloc hc12).set hc10
  refine lpc.rel [3, 10, 11, 12, 13] (fun m ρ h' => ∃ k : Nat, m = e.map.length - k ∧ k ≤ e.map.length ∧ upd H4 c12 ⟨oT (foldR vals (e.map.take k) regs) e.pc e.done e.why n M.cells, 0⟩ = h' ∧
    ρ = [(3, .sl c (List.length pre) vals.length cap), (10, .ptr c10 0), (11, .cp e.cells 0), (12, .ptr c12 0), (13, .int .i64 (k : Int))]) ⟨_, 0, rfl, by omega, rfl, rfl⟩ ?_
  rintro m _ _ ⟨k, rfl, hk, rfl, rfl⟩
  have hlen2 : (foldR vals (e.map.take k) regs).length = 32 := by rw [foldR_len, hlen]
  obtain ⟨R, hR⟩ : ∃ R, foldR vals (e.map.take k) regs = R := ⟨_, rfl⟩
  rw [hR] at hlen2 ⊢
  have g1 : ∀ X, upd H4 c12 X c = some ⟨pre ++ wds vals, sp⟩ := fun X => by rw [upd_ne (Ne.symm n12), c4]
  have g2 : ∀ X, upd H4 c12 X c10 = some ⟨Z, 0⟩ := fun X => by rw [upd_ne (Ne.symm n1210), z4]
  have g3 : ∀ X, upd H4 c12 X c12 = some X := fun X => upd_same _ _ _
  have g4 : ∀ X Y, upd (upd H4 c12 X) c12 Y = upd H4 c12 Y := fun X Y => upd_upd _ _ _ _
  simp only [push_cast, simprocAttr]
  refine ⟨fun hk2 => ?_, fun hk2 => ?_⟩
  · obtain ⟨⟨v1, v2⟩, w1, w2⟩ := hmap k hk2
    have e2 := row_get pre vals (e.map.getD k IVl.zero).val.toNat (by omega)
    have hT := foldR_take vals e.map regs k hk2
    rw [hR] at hT
    generalize e.map.getD k IVl.zero = v at *
    have os := oT_set (pc := e.pc) (done := e.done) (why := e.why) (exit := n) (T := M.cells) hlen2 v.reg.toNat (by omega) (vals.getD v.val.toNat 0#32)
    have ol := oT_len (pc := e.pc) (done := e.done) (why := e.why) (exit := n) (T := M.cells) hlen2 rml
    simp (disch := omega) only [push_cast, simprocAttr, wrap_i64, toNat_ofInt64, Nat.min_eq_left, Int.toNat_of_nonneg, g1, g2, g3, g4, e2, os, ol]
    refine ⟨hk2, hk2, hk2, hk2, ⟨v1, v2⟩, ⟨w1, by omega⟩, by omega, ?_⟩
    exact ⟨_, _, by omega, .refl _, k + 1, rfl, by omega, by rw [hT]; rfl, rfl⟩
  · obtain rfl : k = e.map.length := by omega
    rw [List.take_of_length_le (Nat.le_refl _)] at hR
    have hLR : leaveR e regs vals = R := hR
    rw [hLR]
    by_cases ht : e.to = -1
    · have hLP : leaveP e vals = e.pc := by rw [leaveP, if_pos ht]
      rw [hLP]
      simp only [push_cast, simprocAttr, ht, g1, g2, g3, g4, oT_all hlen2 rml, oT_len hlen2 rml, hZ, oT_put hlen2 rml Z hZ]
      exact ⟨rfl, hsub _ _⟩
    · have hLP : leaveP e vals = lv vals e.to := by rw [leaveP, if_neg ht]
      rw [hLP]
      have ht' : (e.to = -1) = False := by simp [ht]
      obtain ⟨t1, t2⟩ := he.2.resolve_left ht
      have e2 := row_get pre vals e.to.toNat (by omega)
      have op := oT_32 (pc := e.pc) (done := e.done) (why := e.why) (exit := n) (T := M.cells) hlen2 (vals.getD e.to.toNat 0#32)
      simp only [push_cast, simprocAttr, ht', g1, g2, g3, g4, e2, op, oT_all hlen2 rml, oT_len hlen2 rml, hZ, oT_put hlen2 rml Z hZ]
      exact ⟨⟨t1, t2⟩, rfl, hsub _ _⟩
end Go.Ab
end
section
/- The document's answer for a block, done. -/
set_option linter.unusedSimpArgs false
set_option linter.unusedVariables false
set_option maxRecDepth 10000
namespace Go.Ab
open Go.Proofs
variable {G : Glo} {h : Heap}
/-- The values so far, in a row of one's own over other blocks. -/
def RowV (g : Heap) (vv : AV) (vals : List (BitVec 32)) (H : Heap) : Prop := ∃ c pre cap sp, vv = .sl c (List.length pre) vals.length cap ∧ g c = none ∧ cap ≤ vals.length + sp ∧ H = upd g c ⟨pre ++ wds vals, sp⟩
theorem RowV.vv {g H : Heap} {vv : AV} {vals : List (BitVec 32)} (hr : RowV g vv vals H) : VV H vv vals := by
  obtain ⟨c, pre, cap, sp, h1, h2, h3, rfl⟩ := hr
  exact ⟨c, pre, cap, sp, h1, upd_same _ _ _⟩
theorem RowV.app {g H : Heap} {vv : AV} {vals : List (BitVec 32)} (hr : RowV g vv vals H) (w : BitVec 32) (hn : vals.length ≤ 1000) {Q : AV → Heap → Prop} (hq : ∀ v' H', RowV g v' (vals ++ [w]) H' → Q v' H') : appQ 1 4 1 [.int .u32 w.toNat] vv H Q := by
  obtain ⟨c, pre, cap, sp, rfl, h2, h3, rfl⟩ := hr
  have ho : Own 1 g (.sl c pre.length vals.length cap) (wds vals) vals.length (upd g c ⟨pre ++ wds vals, sp⟩) := .row c vals.length cap pre (wds vals) sp h2 (by simp [wds]) (by omega)
  refine ho.app (m := 1) rfl (by omega) (by omega) fun v' h' ho2 => ?_
  have hX : wds vals ++ [AV.int .u32 w.toNat] = wds (vals ++ [w]) := by simp [wds]
  have hN : vals.length + 1 = (vals ++ [w]).length := by simp
  rw [hX, hN] at ho2
  generalize (vals ++ [w]) = U at ho2 hq hN
  generalize hU : wds U = X at ho2
  generalize hL : U.length = N at ho2
  cases ho2 with
  | nil => omega
  | row c' _ cap' pre' cells sp' hb hl hc => exact hq _ _ ⟨c', pre', cap', sp', by rw [hL], hb, by rw [hL]; simpa using hc, by rw [hU]⟩
theorem RowV.get {g H : Heap} {vv : AV} {vals : List (BitVec 32)} (hr : RowV g vv vals H) {b : Nat} {x : Blk} (hb : g b = some x) : H b = some x := by
  obtain ⟨c, pre, cap, sp, rfl, h2, h3, rfl⟩ := hr
  rw [upd_ne (fun e => by rw [e, h2] at hb; cases hb)]
  exact hb
theorem RowV.set {g H : Heap} {vv : AV} {vals : List (BitVec 32)} (hr : RowV g vv vals H) {b : Nat} {x : Blk} (y : Blk) (hb : g b = some x) : RowV (upd g b y) vv vals (upd H b y) := by
  obtain ⟨c, pre, cap, sp, rfl, h2, h3, rfl⟩ := hr
  have hne : c ≠ b := fun e => by rw [e, hb] at h2; cases h2
  exact ⟨c, pre, cap, sp, rfl, by rw [upd_ne hne]; exact h2, h3, upd_comm hne⟩
theorem RowV.sub {g H : Heap} {vv : AV} {vals : List (BitVec 32)} (hr : RowV g vv vals H) : Sub g H := by
  obtain ⟨c, pre, cap, sp, rfl, h2, h3, rfl⟩ := hr
  exact (Sub.refl g).alloc h2
theorem RowV.alloc {g H : Heap} {vv : AV} {vals : List (BitVec 32)} (hr : RowV g vv vals H) {b : Nat} (y : Blk) (hb : H b = none) : RowV (upd g b y) vv vals (upd H b y) := by
  obtain ⟨c, pre, cap, sp, rfl, h2, h3, rfl⟩ := hr
  have hne : c ≠ b := fun e => by rw [e, upd_same] at hb; cases hb
  exact ⟨c, pre, cap, sp, rfl, by rw [upd_ne hne]; exact h2, h3, upd_comm hne⟩
theorem foldR_app (vals : List (BitVec 32)) (w : BitVec 32) (m : List IVl) (regs : List (BitVec 32)) (hm : ∀ v ∈ m, 0 ≤ v.val ∧ v.val < vals.length) : foldR (vals ++ [w]) m regs = foldR vals m regs := by
  induction m generalizing regs with
  | nil => rfl
  | cons v r ih =>
    have e1 : ∀ u, foldR u (v :: r) regs = foldR u r (regs.set v.reg.toNat (lv u v.val)) := fun _ => rfl
    have hv := hm v (by simp)
    have e2 : lv (vals ++ [w]) v.val = lv vals v.val := by
      simp only [lv, List.getD_eq_getElem?_getD]
      rw [List.getElem?_append_left (by omega)]
    rw [e1, e1, e2]
    exact ih _ fun u hu => hm u (by simp [hu])
theorem leave_app {e : IEx} {vals : List (BitVec 32)} (he : okEx e vals.length) (w : BitVec 32) (regs : List (BitVec 32)) : leaveR e regs (vals ++ [w]) = leaveR e regs vals ∧ leaveP e (vals ++ [w]) = leaveP e vals := by
  refine ⟨foldR_app vals w e.map regs fun v hv => ?_, ?_⟩
  · obtain ⟨i, hi, rfl⟩ := List.getElem_of_mem hv
    have := he.1 i hi
    simp only [IEx.vl, List.getD_eq_getElem?_getD, List.getElem?_eq_getElem hi, Option.getD_some] at this
    exact this.1
  · unfold leaveP
    split
    · rfl
    · rename_i ht
      have := he.2.resolve_left ht
      simp only [lv, List.getD_eq_getElem?_getD]
      rw [List.getElem?_append_left (by omega)]
theorem store_wf {M : IRam} (hM : M.wf) {addr : BitVec 32} {n : Nat} {w : BitVec 32} (hz : askedN M.b.length addr n = 0) : (M.store addr n w).1.wf := by
  have hH : hasN M.b.length addr n = true := by unfold askedN at hz; split at hz; omega; split at hz; omega; split at hz; assumption; omega
  simp only [hasN, Bool.and_eq_true, decide_eq_true_eq] at hH
  obtain ⟨k, hk⟩ : ∃ k, addr.toNat - 2147483648 = k := ⟨_, rfl⟩
  have hl := put_len M k (leB w n) (by rw [leB_len]; omega)
  have hw : (M.put k (leB w n)).w = M.w := rfl
  have hg : (M.put k (leB w n)).g = M.g := rfl
  unfold IRam.store
  rw [hk]
  unfold IRam.wf at hM ⊢
  dsimp only
  split
  · simp only [List.length_set]; rw [hl, hw, hg]; exact hM
  · rw [hl, hw, hg]; exact hM
theorem step_wf {M : IRam} (hM : M.wf) (regs : List (BitVec 32)) (o : IOp) (vals : List (BitVec 32)) : (stepN regs o vals M).2.2.wf := by
  unfold stepN
  split
  · exact hM
  · split
    · split <;> exact hM
    · split
      · unfold storeX
        split
        · rename_i hE
          simp only [storeR]
          have hz := hE
          unfold storeE at hz
          obtain ⟨N, hN⟩ : ∃ N : Nat, storesN o.imm.toNat = N := ⟨(storesN o.imm.toNat).toNat, by unfold askedN at hz; split at hz <;> omega⟩
          rw [hN] at hz ⊢
          exact store_wf hM hz
        · exact hM
      · split
        · exact hM
        · split <;> exact hM
def rOutOf (b : IBk) (regs : List (BitVec 32)) (M : IRam) : List AV := b.outOf regs M ++ (b.ramOf regs M).cells
section
variable {M : IRam} {b : IBk} {regs : List (BitVec 32)}
theorem rDo_spec (hM : M.wf) (hc : b.check = 0) (hlen : regs.length = 32) (hm : ∀ e ∈ b.exits, e.map.length ≤ 1000) :
    Spec Tryz.prog G 43 [.agg b.cells, .agg (wds regs), ramV M] h (Is (.agg (rOutOf b regs M)) h) := by
  have hwl : (wds regs).length = 32 := by simp [wds, hlen]
  have hpa : partOf (wds regs) 0 (some 32) = some (.agg (wds regs)) := partOf_all hwl
  have bpa : partOf b.cells 0 (some 4) = some (.agg b.cells) := partOf_all rfl
  have rmlG : ∀ M : IRam, M.cells.length = 3 := fun _ => rfl
  have rmaG : ∀ M : IRam, partOf M.cells 0 (some 3) = some (.agg M.cells) := fun M => partOf_all rfl
  have rm0G : ∀ M : IRam, M.cells[0]? = some (byt M.b) := fun _ => rfl
  have hright := check_right hc
  have hol : b.ops.length ≤ 512 := by
    unfold IBk.check IBk.long at hc
    split at hc
    · cases hc
    · rename_i hl; simp only [Bool.or_eq_true, decide_eq_true_eq] at hl; omega
  have hmx : ∀ n, (b.ex n).map.length ≤ 1000 := fun n => getD_map hm
  refine Spec.is C43ok rfl ?_
  simp only [push_cast, simprocAttr, hwl, rmlG]
  intro c5 hc5 c6 hc6
  obtain ⟨n65, hc6h⟩ := upd_none hc6
  obtain ⟨g0, hg0⟩ : ∃ g0, upd (upd h c5 ⟨M.cells, 0⟩) c6 ⟨[.int .u32 0, .int .u32 0, .int .u32 0, .int .u32 0, .int .u32 0, .int .u32 0, .int .u32 0, .int .u32 0, .int .u32 0, .int .u32 0, .int .u32 0, .int .u32 0, .int .u32 0, .int .u32 0, .int .u32 0, .int .u32 0, .int .u32 0, .int .u32 0, .int .u32 0, .int .u32 0, .int .u32 0, .int .u32 0, .int .u32 0, .int .u32 0, .int .u32 0, .int .u32 0, .int .u32 0, .int .u32 0, .int .u32 0, .int .u32 0, .int .u32 0, .int .u32 0, .int .u32 0, .int .i64 0, .int .i64 0, .int .i64 0, .nils, .nils, .nils], 0⟩ = g0 := ⟨_, rfl⟩
  have z6 : ∃ Z : List AV, Z.length = 39 ∧ g0 c6 = some ⟨Z, 0⟩ := ⟨_, rfl, by rw [← hg0, upd_same]⟩
  have z5 : g0 c5 = some ⟨M.cells, 0⟩ := by rw [← hg0, upd_ne (Ne.symm n65), upd_same]
  have s0 : Sub h g0 := hg0 ▸ ((Sub.refl h).alloc hc5).alloc hc6
  rw [hg0]
  clear hg0 hc6
  obtain ⟨Z, hZ, z6⟩ := z6
  intro c7 hc7
  have fin : ∀ (H2 : Heap) (R : List (BitVec 32)) (pc : BitVec 32) (d y n : Int) (M2 : IRam), R.length = 32 → H2 c6 = some ⟨Z, 0⟩ → Sub h H2 → b.outOf regs M = outC R pc d y n → b.ramOf regs M = M2 →
      (H2 c6 = some ⟨Z, 0⟩ ∧ (rOut R pc d y n M2).length = 39 ∧ splice Z 0 (rOut R pc d y n M2) = rOut R pc d y n M2 ∧ partOf (rOut R pc d y n M2) 0 (some 39) = some (.agg (rOutOf b regs M)) ∧ ∀ X, Sub h (upd H2 c6 X)) := by
    intro H2 R pc d y n M2 hR h6 hs hO hM2
    exact ⟨h6, oT_len hR (rmlG _), oT_put hR (rmlG _) Z hZ, by rw [rOut, oT_all hR (rmlG _), rOutOf, hO, hM2]; rfl, fun X => hs.set hc6h⟩
  refine lpc.rel [3, 4, 5, 6, 7, 8] (fun m ρ H => ∃ k vv vals M1 g, m = b.ops.length - k ∧ k ≤ b.ops.length ∧ RowV g vv vals H ∧ vals.length = k ∧ M1.wf ∧ g c5 = some ⟨M1.cells, 0⟩ ∧ g c6 = some ⟨Z, 0⟩ ∧ Sub h g ∧ runN regs b.ops [] M = runN regs (b.ops.drop k) vals M1 ∧
    ρ = [(3, .cp b.cells 0), (4, .cp (wds regs) 0), (5, .ptr c5 0), (6, .ptr c6 0), (7, vv), (8, .int .i64 (k : Int))]) ⟨_, 0, .sl c7 0 0 0, [], M, g0, rfl, by omega, ⟨c7, [], 0, 0, rfl, hc7, by simp, rfl⟩, rfl, hM, z5, z6, s0, rfl, rfl⟩ ?_
  clear z5 z6 s0 hc7
  rintro m _ H ⟨k, vv, vals, M1, g, rfl, hk, hrow, hvl, hM1, z5, z6, s0, hrun, rfl⟩
  simp only [push_cast, simprocAttr, hwl, rmlG]
  refine ⟨fun hk2 => ?_, fun hk2 => ?_⟩
  · have hop : b.ops.getD k IOp.zero = b.op k := rfl
    rw [hop]
    obtain ⟨ok1, okx, oky⟩ := op_ok hright k hk2
    refine ⟨hk2, hk2, fun c9 hc9 => ?_⟩
    rw [era_none hc9]
    have h5 := hrow.get z5
    have h6 := hrow.get z6
    have hvl2 : vals.length ≤ 1000 := by omega
    obtain ⟨k0, k1, k3, k6, ka, kb⟩ := ok1
    have hdr : b.ops.drop k = b.op k :: b.ops.drop (k + 1) := by
      rw [List.drop_eq_getElem_cons hk2]; congr 1; simp [IBk.op, hk2]
    rw [hdr] at hrun
    have hsx := step_exit hright k hk2 regs vals M1
    have hsw := step_wf hM1 regs (b.op k) vals
    simp only [runN] at hrun
    have ex : ∀ (x : Int) (M2 : IRam) (w : BitVec 32) (g2 H2 : Heap) (vv2 : AV), b.exit x k = true → RowV g2 vv2 vals H2 → g2 c6 = some ⟨Z, 0⟩ → Sub h g2 → runN regs b.ops [] M = (some x, vals ++ [w], M2) →
        (0 ≤ x ∧ x < b.exits.length ∧ okEx (b.ex x.toNat) vals.length) ∧ H2 c6 = some ⟨Z, 0⟩ ∧ (rOut (leaveR (b.ex x.toNat) regs vals) (leaveP (b.ex x.toNat) vals) (b.ex x.toNat).done (b.ex x.toNat).why x M2).length = 39 ∧
        splice Z 0 (rOut (leaveR (b.ex x.toNat) regs vals) (leaveP (b.ex x.toNat) vals) (b.ex x.toNat).done (b.ex x.toNat).why x M2) = rOut (leaveR (b.ex x.toNat) regs vals) (leaveP (b.ex x.toNat) vals) (b.ex x.toNat).done (b.ex x.toNat).why x M2 ∧
        partOf (rOut (leaveR (b.ex x.toNat) regs vals) (leaveP (b.ex x.toNat) vals) (b.ex x.toNat).done (b.ex x.toNat).why x M2) 0 (some 39) = some (.agg (rOutOf b regs M)) ∧ ∀ X, Sub h (upd H2 c6 X) := by
      intro x M2 w g2 H2 vv2 hx hr2 h6' hs2 hrun2
      obtain ⟨x1, x2, x3⟩ := okEx_of hright hx (m := vals.length) (by omega)
      obtain ⟨l1, l2⟩ := leave_app x3 w regs
      refine ⟨⟨x1, x2, x3⟩, fin H2 _ _ _ _ x M2 (by rw [leaveR, foldR_len, hlen]) (hr2.get h6') (fun c y hc => hr2.sub c y (hs2 c y hc)) ?_ ?_⟩
      · simp only [IBk.outOf, IBk.exitOf, hrun2, Option.getD_some, l1, l2]
      · rw [IBk.ramOf, hrun2]
    generalize b.op k = o at *
    have hcd : o.code = 1 ∨ o.code = 2 ∨ o.code = 3 ∨ o.code = 4 ∨ o.code = 5 ∨ o.code = 6 := by omega
    rcases hcd with hcd | hcd | hcd | hcd | hcd | hcd
    · have hi := k1 hcd
      have hN : stepN regs o vals M1 = (regs.getD o.imm.toNat 0#32, -1, M1) := by rw [stepN, if_pos hcd]
      rw [hN, if_pos rfl] at hrun
      simp (disch := omega) only [push_cast, simprocAttr, wrap_i64, toNat_ofInt64, Nat.min_eq_left, Int.toNat_of_nonneg, hcd, hwl, rmlG]
      refine ⟨by omega, by omega, ?_⟩
      refine hrow.app (regs.getD o.imm.toNat 0#32) hvl2 fun v' H' hrow' => ?_
      simp (disch := omega) only [push_cast, simprocAttr, wrap_i64, toNat_ofInt64, Nat.min_eq_left, Int.toNat_of_nonneg, hcd]
      exact ⟨_, _, by omega, .refl _, k + 1, v', vals ++ [(regs.getD o.imm.toNat 0#32)], M1, g, rfl, by omega, hrow', by simp [hvl], hM1, z5, z6, s0, hrun, rfl⟩
    · have hN : stepN regs o vals M1 = (o.imm, -1, M1) := by simp [stepN, hcd]
      rw [hN, if_pos rfl] at hrun
      simp (disch := omega) only [push_cast, simprocAttr, wrap_i64, toNat_ofInt64, Nat.min_eq_left, Int.toNat_of_nonneg, hcd, hwl, rmlG]
      refine hrow.app o.imm hvl2 fun v' H' hrow' => ?_
      simp (disch := omega) only [push_cast, simprocAttr, wrap_i64, toNat_ofInt64, Nat.min_eq_left, Int.toNat_of_nonneg, hcd]
      exact ⟨_, _, by omega, .refl _, k + 1, v', vals ++ [o.imm], M1, g, rfl, by omega, hrow', by simp [hvl], hM1, z5, z6, s0, hrun, rfl⟩
    · obtain ⟨a1, a2⟩ := ka (by omega)
      obtain ⟨b1, b2⟩ := kb (.inl hcd)
      have hN : stepN regs o vals M1 = (reckN o.imm.toNat (lv vals o.a) (lv vals o.b), -1, M1) := by simp [stepN, hcd]
      rw [hN, if_pos rfl] at hrun
      obtain ⟨c, pre, cap, sp, rfl, hcv⟩ := hrow.vv
      have ea := row_get pre vals o.a.toNat (by omega)
      have eb := row_get pre vals o.b.toNat (by omega)
      have a3 : o.a < (vals.length : Int) := by omega
      have b3 : o.b < (vals.length : Int) := by omega
      simp (disch := omega) only [push_cast, simprocAttr, wrap_i64, toNat_ofInt64, Nat.min_eq_left, Int.toNat_of_nonneg, hcd, hwl, rmlG, rmaG, rm0G, h5, hcv, ea, a1, a3, eb, b1, b3]
      refine (Reckon_spec o.imm.toNat (lv vals o.a) (lv vals o.b) (k3 hcd)).to ?_
      simp (disch := omega) only [push_cast, simprocAttr, wrap_i64, toNat_ofInt64, Nat.min_eq_left, Int.toNat_of_nonneg, hcd, hwl, rmlG, rmaG, rm0G, h5, hcv, ea, a1, a3, eb, b1, b3]
      refine hrow.app (reckN o.imm.toNat (lv vals o.a) (lv vals o.b)) hvl2 fun v' H' hrow' => ?_
      simp (disch := omega) only [push_cast, simprocAttr, wrap_i64, toNat_ofInt64, Nat.min_eq_left, Int.toNat_of_nonneg, hcd]
      exact ⟨_, _, by omega, .refl _, k + 1, v', vals ++ [(reckN o.imm.toNat (lv vals o.a) (lv vals o.b))], M1, g, rfl, by omega, hrow', by simp [hvl], hM1, z5, z6, s0, hrun, rfl⟩
    · obtain ⟨a1, a2⟩ := ka (by omega)
      have hN : stepN regs o vals M1 = if loadE o vals M1 = 0 then (extI o.imm.toNat (M1.load (lv vals o.a) (loadsN o.imm.toNat).toNat), -1, M1) else (0, o.x, M1) := by simp [stepN, hcd]
      obtain ⟨c, pre, cap, sp, rfl, hcv⟩ := hrow.vv
      have ea := row_get pre vals o.a.toNat (by omega)
      have a3 : o.a < (vals.length : Int) := by omega
      have hbl : M1.b.length ≤ 65536 := by have := hM1; unfold IRam.wf at this; omega
      simp (disch := omega) only [push_cast, simprocAttr, wrap_i64, toNat_ofInt64, Nat.min_eq_left, Int.toNat_of_nonneg, hcd, hwl, rmlG, rmaG, rm0G, h5, hcv, ea, a1, a3]
      refine (rLoads_spec o.imm.toNat).to ?_
      simp (disch := omega) only [push_cast, simprocAttr, wrap_i64, toNat_ofInt64, Nat.min_eq_left, Int.toNat_of_nonneg, hcd, hwl, rmlG, rmaG, rm0G, h5, hcv, ea, a1, a3]
      refine (rAsked_spec M1.b (lv vals o.a) (loadsN o.imm.toNat) hbl).to ?_
      by_cases hE : loadE o vals M1 = 0
      · rw [if_pos hE] at hN
        have hE' : askedN M1.b.length (lv vals o.a) (loadsN o.imm.toNat) = 0 := hE
        rw [hE']
        obtain ⟨N, hLN⟩ : ∃ N : Nat, loadsN o.imm.toNat = N := ⟨(loadsN o.imm.toNat).toNat, by unfold askedN at hE'; split at hE' <;> omega⟩
        rw [hLN] at hE' hN ⊢
        have hH : hasN M1.b.length (lv vals o.a) N = true := by unfold askedN at hE'; split at hE'; omega; split at hE'; omega; split at hE'; assumption; omega
        have hn124 : N = 1 ∨ N = 2 ∨ N = 4 := by unfold askedN at hE'; split at hE' <;> omega
        rw [hN, if_pos rfl] at hrun
        simp (disch := omega) only [push_cast, simprocAttr, wrap_i64, toNat_ofInt64, Nat.min_eq_left, Int.toNat_of_nonneg, hcd, hwl, rmlG, rmaG, rm0G, h5, hcv, ea, a1, a3]
        refine (rLoad_spec M1 (lv vals o.a) N hbl hn124 hH).to ?_
        simp (disch := omega) only [push_cast, simprocAttr, wrap_i64, toNat_ofInt64, Nat.min_eq_left, Int.toNat_of_nonneg, hcd, hwl, rmlG, rmaG, rm0G, h5, hcv, ea, a1, a3]
        simp only [Int.toNat_natCast] at hrun
        by_cases e11 : (o.imm.toNat : Int) = 11
        · have hN1 : N = 1 := by rw [e11] at hLN; simp [loadsN] at hLN; omega
          subst hN1
          have hX : extI o.imm.toNat (M1.load (lv vals o.a) 1) = BitVec.ofNat 32 (extN (M1.load (lv vals o.a) 1).toNat 8) := by rw [extI, if_pos e11]
          rw [hX] at hrun
          simp (disch := omega) only [push_cast, simprocAttr, wrap_i64, toNat_ofInt64, Nat.min_eq_left, Int.toNat_of_nonneg, e11]
          intro _
          refine (Extend_spec (M1.load (lv vals o.a) 1) 8 (by omega) (by omega)).to ?_
          simp (disch := omega) only [push_cast, simprocAttr, wrap_i64, toNat_ofInt64, Nat.min_eq_left, Int.toNat_of_nonneg, hcd, hwl, rmlG, rmaG, rm0G, h5, hcv, ea, a1, a3]
          refine hrow.app (BitVec.ofNat 32 (extN (M1.load (lv vals o.a) 1).toNat 8)) hvl2 fun v' H' hrow' => ?_
          simp (disch := omega) only [push_cast, simprocAttr, wrap_i64, toNat_ofInt64, Nat.min_eq_left, Int.toNat_of_nonneg, hcd]
          exact ⟨_, _, by omega, .refl _, k + 1, v', vals ++ [(BitVec.ofNat 32 (extN (M1.load (lv vals o.a) 1).toNat 8))], M1, g, rfl, by omega, hrow', by simp [hvl], hM1, z5, z6, s0, hrun, rfl⟩
        · by_cases e12 : (o.imm.toNat : Int) = 12
          · have hN1 : N = 2 := by rw [e12] at hLN; simp [loadsN] at hLN; omega
            subst hN1
            have hX : extI o.imm.toNat (M1.load (lv vals o.a) 2) = BitVec.ofNat 32 (extN (M1.load (lv vals o.a) 2).toNat 16) := by rw [extI, if_neg e11, if_pos e12]
            rw [hX] at hrun
            simp (disch := omega) only [push_cast, simprocAttr, wrap_i64, toNat_ofInt64, Nat.min_eq_left, Int.toNat_of_nonneg, e12]
            intro _
            refine (Extend_spec (M1.load (lv vals o.a) 2) 16 (by omega) (by omega)).to ?_
            simp (disch := omega) only [push_cast, simprocAttr, wrap_i64, toNat_ofInt64, Nat.min_eq_left, Int.toNat_of_nonneg, hcd, hwl, rmlG, rmaG, rm0G, h5, hcv, ea, a1, a3]
            refine hrow.app (BitVec.ofNat 32 (extN (M1.load (lv vals o.a) 2).toNat 16)) hvl2 fun v' H' hrow' => ?_
            simp (disch := omega) only [push_cast, simprocAttr, wrap_i64, toNat_ofInt64, Nat.min_eq_left, Int.toNat_of_nonneg, hcd]
            exact ⟨_, _, by omega, .refl _, k + 1, v', vals ++ [(BitVec.ofNat 32 (extN (M1.load (lv vals o.a) 2).toNat 16))], M1, g, rfl, by omega, hrow', by simp [hvl], hM1, z5, z6, s0, hrun, rfl⟩
          · have hX : extI o.imm.toNat (M1.load (lv vals o.a) N) = M1.load (lv vals o.a) N := by rw [extI, if_neg e11, if_neg e12]
            rw [hX] at hrun
            have e11' : ((o.imm.toNat : Int) = 11) = False := by simp only [e11]
            have e12' : ((o.imm.toNat : Int) = 12) = False := by simp only [e12]
            simp (disch := omega) only [push_cast, simprocAttr, wrap_i64, toNat_ofInt64, Nat.min_eq_left, Int.toNat_of_nonneg, e11', e12']
            refine ⟨fun q => absurd q (by simp), ?_⟩
            try intro _
            refine hrow.app (M1.load (lv vals o.a) N) hvl2 fun v' H' hrow' => ?_
            simp (disch := omega) only [push_cast, simprocAttr, wrap_i64, toNat_ofInt64, Nat.min_eq_left, Int.toNat_of_nonneg, hcd]
            exact ⟨_, _, by omega, .refl _, k + 1, v', vals ++ [(M1.load (lv vals o.a) N)], M1, g, rfl, by omega, hrow', by simp [hvl], hM1, z5, z6, s0, hrun, rfl⟩
      · rw [if_neg hE] at hN
        have hE' : (askedN M1.b.length (lv vals o.a) (loadsN o.imm.toNat) = 0) = False := by simp only [eq_iff_iff, iff_false]; exact hE
        have hxx := okx (.inl hcd)
        have hne : o.x ≠ -1 := by have := (exit_ok hxx).1; omega
        rw [hN] at hrun
        dsimp only at hrun
        rw [if_neg hne] at hrun
        simp (disch := omega) only [push_cast, simprocAttr, wrap_i64, toNat_ofInt64, Nat.min_eq_left, Int.toNat_of_nonneg, hcd, hwl, rmlG, rmaG, rm0G, h5, hcv, ea, a1, a3, hE']
        obtain ⟨⟨x1, x2, x3⟩, f1, f2, f3, f4, f5⟩ := ex o.x M1 0 g H _ hxx hrow z6 s0 hrun
        refine (rleave_spec b hrow.vv hlen o.x x1 x2 (hmx _) x3).to ?_
        simp only [push_cast, simprocAttr, f1, f2, f3, f4, hZ]
        exact f5 _
    · obtain ⟨a1, a2⟩ := ka (by omega)
      obtain ⟨b1, b2⟩ := kb (.inr (.inl hcd))
      have hN : stepN regs o vals M1 = (0, storeX o vals M1) := by simp [stepN, hcd]
      obtain ⟨c, pre, cap, sp, rfl, hcv⟩ := hrow.vv
      have ea := row_get pre vals o.a.toNat (by omega)
      have eb := row_get pre vals o.b.toNat (by omega)
      have a3 : o.a < (vals.length : Int) := by omega
      have b3 : o.b < (vals.length : Int) := by omega
      have hbl : M1.b.length ≤ 65536 := by have := hM1; unfold IRam.wf at this; omega
      simp (disch := omega) only [push_cast, simprocAttr, wrap_i64, toNat_ofInt64, Nat.min_eq_left, Int.toNat_of_nonneg, hcd, hwl, rmlG, rmaG, rm0G, h5, hcv, ea, a1, a3, eb, b1, b3]
      refine (rStores_spec o.imm.toNat).to ?_
      simp (disch := omega) only [push_cast, simprocAttr, wrap_i64, toNat_ofInt64, Nat.min_eq_left, Int.toNat_of_nonneg, hcd, hwl, rmlG, rmaG, rm0G, h5, hcv, ea, a1, a3, eb, b1, b3]
      refine (rAsked_spec M1.b (lv vals o.a) (storesN o.imm.toNat) hbl).to ?_
      by_cases hE : storeE o vals M1 = 0
      · have hE' : askedN M1.b.length (lv vals o.a) (storesN o.imm.toNat) = 0 := hE
        have hX : storeX o vals M1 = (if (storeR o vals M1).2 then o.y else -1, (storeR o vals M1).1) := by rw [storeX, if_pos hE]
        rw [hX] at hN
        rw [hE']
        obtain ⟨N, hLN⟩ : ∃ N : Nat, storesN o.imm.toNat = N := ⟨(storesN o.imm.toNat).toNat, by unfold askedN at hE'; split at hE' <;> omega⟩
        have hSR : storeR o vals M1 = M1.store (lv vals o.a) N (lv vals o.b) := by rw [storeR, hLN]; rfl
        rw [hLN] at hE' ⊢
        rw [hSR] at hN
        have hst := fun H : Heap => rStore_spec (G := G) (h := H) hM1 (lv vals o.a) N (lv vals o.b) hE'
        have hwf2 := store_wf hM1 (w := lv vals o.b) hE'
        simp (disch := omega) only [push_cast, simprocAttr, wrap_i64, toNat_ofInt64, Nat.min_eq_left, Int.toNat_of_nonneg, hcd, hwl, rmlG, rmaG, rm0G, h5, hcv, ea, a1, a3, eb, b1, b3]
        generalize M1.store (lv vals o.a) N (lv vals o.b) = S at hN hst hwf2
        obtain ⟨M2, hit⟩ := S
        dsimp only at hN hst hwf2
        have spl : splice [AV.nils, AV.nils, AV.nils] 0 M2.cells = M2.cells := splice_all' rfl
        have spl1 : splice M1.cells 0 M2.cells = M2.cells := splice_all' rfl
        refine ⟨?_, ?_⟩
        · refine (hst _).to ?_
          simp (disch := omega) only [push_cast, simprocAttr, wrap_i64, toNat_ofInt64, Nat.min_eq_left, Int.toNat_of_nonneg, hcd, hwl, rmlG, rmaG, rm0G, h5, hcv, ea, a1, a3, eb, b1, b3, spl]
          intro c14 hc14
          have n5 : c14 ≠ c5 := fun e => by rw [e, h5] at hc14; cases hc14
          have n6 : c14 ≠ c6 := fun e => by rw [e, h6] at hc14; cases hc14
          have nc : c14 ≠ c := fun e => by rw [e, hcv] at hc14; cases hc14
          have u5 : ∀ X, upd H c14 X c5 = some ⟨M1.cells, 0⟩ := fun X => by rw [upd_ne (Ne.symm n5)]; exact h5
          have uc : ∀ X, upd H c14 X c = some ⟨pre ++ wds vals, sp⟩ := fun X => by rw [upd_ne (Ne.symm nc)]; exact hcv
          have r1 := hrow.alloc ⟨M2.cells, 0⟩ hc14
          have q5 : upd g c14 ⟨M2.cells, 0⟩ c5 = some ⟨M1.cells, 0⟩ := by rw [upd_ne (Ne.symm n5)]; exact z5
          have r2 := r1.set ⟨M2.cells, 0⟩ q5
          have q6 : upd (upd g c14 ⟨M2.cells, 0⟩) c5 ⟨M2.cells, 0⟩ c6 = some ⟨Z, 0⟩ := by rw [upd_ne n65, upd_ne (Ne.symm n6)]; exact z6
          have q7 : upd (upd g c14 ⟨M2.cells, 0⟩) c5 ⟨M2.cells, 0⟩ c5 = some ⟨M2.cells, 0⟩ := upd_same _ _ _
          have gn : g c14 = none := by
            cases e : g c14 with
            | none => rfl
            | some y => have := hrow.sub c14 y e; rw [hc14] at this; cases this
          have qs : Sub h (upd (upd g c14 ⟨M2.cells, 0⟩) c5 ⟨M2.cells, 0⟩) := (s0.alloc gn).set hc5
          cases hit with
          | false =>
            simp (disch := omega) only [push_cast, simprocAttr, wrap_i64, toNat_ofInt64, Nat.min_eq_left, Int.toNat_of_nonneg, hcd, hwl, rmlG, rmaG, rm0G, h5, hcv, ea, a1, a3, eb, b1, b3, u5, uc, spl, spl1]
            rw [if_neg (by simp)] at hN
            rw [hN, if_pos rfl] at hrun
            refine r2.app 0 hvl2 fun v' H' hrow' => ?_
            simp (disch := omega) only [push_cast, simprocAttr, wrap_i64, toNat_ofInt64, Nat.min_eq_left, Int.toNat_of_nonneg, hcd]
            exact ⟨_, _, by omega, .refl _, k + 1, v', vals ++ [0], M2, _, rfl, by omega, hrow', by simp [hvl], hwf2, q7, q6, qs, hrun, rfl⟩
          | true =>
            simp (disch := omega) only [push_cast, simprocAttr, wrap_i64, toNat_ofInt64, Nat.min_eq_left, Int.toNat_of_nonneg, hcd, hwl, rmlG, rmaG, rm0G, h5, hcv, ea, a1, a3, eb, b1, b3, u5, uc, spl, spl1]
            have hxx := oky hcd
            have hne : o.y ≠ -1 := by have := (exit_ok hxx).1; omega
            rw [if_pos rfl] at hN
            rw [hN] at hrun
            dsimp only at hrun
            rw [if_neg hne] at hrun
            obtain ⟨⟨x1, x2, x3⟩, f1, f2, f3, f4, f5⟩ := ex o.y M2 0 _ _ _ hxx r2 q6 qs hrun
            refine (rleave_spec b r2.vv hlen o.y x1 x2 (hmx _) x3).to ?_
            simp only [push_cast, simprocAttr, f1, f2, f3, f4, hZ]
            exact f5 _
        · intro c14 hc14
          have n5 : c14 ≠ c5 := fun e => by rw [e, h5] at hc14; cases hc14
          have n6 : c14 ≠ c6 := fun e => by rw [e, h6] at hc14; cases hc14
          have nc : c14 ≠ c := fun e => by rw [e, hcv] at hc14; cases hc14
          have u5 : ∀ X, upd H c14 X c5 = some ⟨M1.cells, 0⟩ := fun X => by rw [upd_ne (Ne.symm n5)]; exact h5
          have uc : ∀ X, upd H c14 X c = some ⟨pre ++ wds vals, sp⟩ := fun X => by rw [upd_ne (Ne.symm nc)]; exact hcv
          have r1 := hrow.alloc ⟨M2.cells, 0⟩ hc14
          have q5 : upd g c14 ⟨M2.cells, 0⟩ c5 = some ⟨M1.cells, 0⟩ := by rw [upd_ne (Ne.symm n5)]; exact z5
          have r2 := r1.set ⟨M2.cells, 0⟩ q5
          have q6 : upd (upd g c14 ⟨M2.cells, 0⟩) c5 ⟨M2.cells, 0⟩ c6 = some ⟨Z, 0⟩ := by rw [upd_ne n65, upd_ne (Ne.symm n6)]; exact z6
          have q7 : upd (upd g c14 ⟨M2.cells, 0⟩) c5 ⟨M2.cells, 0⟩ c5 = some ⟨M2.cells, 0⟩ := upd_same _ _ _
          have gn : g c14 = none := by
            cases e : g c14 with
            | none => rfl
            | some y => have := hrow.sub c14 y e; rw [hc14] at this; cases this
          have qs : Sub h (upd (upd g c14 ⟨M2.cells, 0⟩) c5 ⟨M2.cells, 0⟩) := (s0.alloc gn).set hc5
          simp (disch := omega) only [push_cast, simprocAttr, wrap_i64, toNat_ofInt64, Nat.min_eq_left, Int.toNat_of_nonneg, hcd, hwl, rmlG, rmaG, rm0G, h5, hcv, ea, a1, a3, eb, b1, b3, u5, uc, spl, spl1]
          refine (hst _).to ?_
          cases hit with
          | false =>
            simp (disch := omega) only [push_cast, simprocAttr, wrap_i64, toNat_ofInt64, Nat.min_eq_left, Int.toNat_of_nonneg, hcd, hwl, rmlG, rmaG, rm0G, h5, hcv, ea, a1, a3, eb, b1, b3, u5, uc, spl, spl1]
            rw [if_neg (by simp)] at hN
            rw [hN, if_pos rfl] at hrun
            refine r2.app 0 hvl2 fun v' H' hrow' => ?_
            simp (disch := omega) only [push_cast, simprocAttr, wrap_i64, toNat_ofInt64, Nat.min_eq_left, Int.toNat_of_nonneg, hcd]
            exact ⟨_, _, by omega, .refl _, k + 1, v', vals ++ [0], M2, _, rfl, by omega, hrow', by simp [hvl], hwf2, q7, q6, qs, hrun, rfl⟩
          | true =>
            simp (disch := omega) only [push_cast, simprocAttr, wrap_i64, toNat_ofInt64, Nat.min_eq_left, Int.toNat_of_nonneg, hcd, hwl, rmlG, rmaG, rm0G, h5, hcv, ea, a1, a3, eb, b1, b3, u5, uc, spl, spl1]
            have hxx := oky hcd
            have hne : o.y ≠ -1 := by have := (exit_ok hxx).1; omega
            rw [if_pos rfl] at hN
            rw [hN] at hrun
            dsimp only at hrun
            rw [if_neg hne] at hrun
            obtain ⟨⟨x1, x2, x3⟩, f1, f2, f3, f4, f5⟩ := ex o.y M2 0 _ _ _ hxx r2 q6 qs hrun
            refine (rleave_spec b r2.vv hlen o.y x1 x2 (hmx _) x3).to ?_
            simp only [push_cast, simprocAttr, f1, f2, f3, f4, hZ]
            exact f5 _
      · have hX : storeX o vals M1 = (o.x, M1) := by rw [storeX, if_neg hE]
        rw [hX] at hN
        have hE' : (askedN M1.b.length (lv vals o.a) (storesN o.imm.toNat) = 0) = False := by simp only [eq_iff_iff, iff_false]; exact hE
        have hxx := okx (.inr (.inl hcd))
        have hne : o.x ≠ -1 := by have := (exit_ok hxx).1; omega
        rw [hN] at hrun
        dsimp only at hrun
        rw [if_neg hne] at hrun
        simp (disch := omega) only [push_cast, simprocAttr, wrap_i64, toNat_ofInt64, Nat.min_eq_left, Int.toNat_of_nonneg, hcd, hwl, rmlG, rmaG, rm0G, h5, hcv, ea, a1, a3, eb, b1, b3, hE']
        obtain ⟨⟨x1, x2, x3⟩, f1, f2, f3, f4, f5⟩ := ex o.x M1 0 g H _ hxx hrow z6 s0 hrun
        refine (rleave_spec b hrow.vv hlen o.x x1 x2 (hmx _) x3).to ?_
        simp only [push_cast, simprocAttr, f1, f2, f3, f4, hZ]
        exact f5 _
    · obtain ⟨a1, a2⟩ := ka (by omega)
      obtain ⟨b1, b2⟩ := kb (.inr (.inr hcd))
      have hN : stepN regs o vals M1 = (0, if takenN o.imm.toNat (lv vals o.a) (lv vals o.b) then -1 else o.x, M1) := by simp [stepN, hcd]
      obtain ⟨c, pre, cap, sp, rfl, hcv⟩ := hrow.vv
      have ea := row_get pre vals o.a.toNat (by omega)
      have eb := row_get pre vals o.b.toNat (by omega)
      have a3 : o.a < (vals.length : Int) := by omega
      have b3 : o.b < (vals.length : Int) := by omega
      simp (disch := omega) only [push_cast, simprocAttr, wrap_i64, toNat_ofInt64, Nat.min_eq_left, Int.toNat_of_nonneg, hcd, hwl, rmlG, rmaG, rm0G, h5, hcv, ea, a1, a3, eb, b1, b3]
      refine (rTaken_spec o.imm.toNat (lv vals o.a) (lv vals o.b) (k6 hcd)).to ?_
      cases hT : takenN o.imm.toNat (lv vals o.a) (lv vals o.b) with
      | true =>
        rw [hT, if_pos rfl] at hN
        rw [hN, if_pos rfl] at hrun
        simp (disch := omega) only [push_cast, simprocAttr, wrap_i64, toNat_ofInt64, Nat.min_eq_left, Int.toNat_of_nonneg, hcd, hwl, rmlG, rmaG, rm0G, h5, hcv, ea, a1, a3, eb, b1, b3]
        refine hrow.app 0 hvl2 fun v' H' hrow' => ?_
        simp (disch := omega) only [push_cast, simprocAttr, wrap_i64, toNat_ofInt64, Nat.min_eq_left, Int.toNat_of_nonneg, hcd]
        exact ⟨_, _, by omega, .refl _, k + 1, v', vals ++ [0], M1, g, rfl, by omega, hrow', by simp [hvl], hM1, z5, z6, s0, hrun, rfl⟩
      | false =>
        rw [hT, if_neg (by simp)] at hN
        simp (disch := omega) only [push_cast, simprocAttr, wrap_i64, toNat_ofInt64, Nat.min_eq_left, Int.toNat_of_nonneg, hcd, hwl, rmlG, rmaG, rm0G, h5, hcv, ea, a1, a3, eb, b1, b3]
        have hxx := okx (.inr (.inr hcd))
        have hne : o.x ≠ -1 := by have := (exit_ok hxx).1; omega
        rw [hN] at hrun
        dsimp only at hrun
        rw [if_neg hne] at hrun
        obtain ⟨⟨x1, x2, x3⟩, f1, f2, f3, f4, f5⟩ := ex o.x M1 0 g H _ hxx hrow z6 s0 hrun
        refine (rleave_spec b hrow.vv hlen o.x x1 x2 (hmx _) x3).to ?_
        simp only [push_cast, simprocAttr, f1, f2, f3, f4, hZ]
        exact f5 _
  · obtain rfl : k = b.ops.length := by omega
    rw [List.drop_of_length_le (Nat.le_refl _), runN] at hrun
    have h5 := hrow.get z5
    have h6 := hrow.get z6
    have hlast : b.exit b.last b.ops.length = true := by
      simp only [IBk.right, Bool.and_eq_true] at hright
      exact hright.2
    obtain ⟨x1, x2, x3⟩ := okEx_of hright hlast (m := vals.length) (by omega)
    obtain ⟨f1, f2, f3, f4, f5⟩ := fin H (leaveR (b.ex b.last.toNat) regs vals) (leaveP (b.ex b.last.toNat) vals) (b.ex b.last.toNat).done (b.ex b.last.toNat).why b.last M1 (by rw [leaveR, foldR_len, hlen]) h6 (fun c y hc => hrow.sub c y (s0 c y hc)) (by simp only [IBk.outOf, IBk.exitOf, hrun, Option.getD_none]) (by rw [IBk.ramOf, hrun])
    simp only [push_cast, simprocAttr, h5, rmaG, rmlG]
    refine (rleave_spec b hrow.vv hlen b.last x1 x2 (hmx _) x3).to ?_
    simp only [push_cast, simprocAttr, f1, f2, f3, f4, hZ]
    exact f5 _
end
end Go.Ab
end
section
/- May a block be done, and the machine behind it: the document's. -/
set_option linter.unusedSimpArgs false
set_option linter.unusedVariables false
set_option maxRecDepth 10000
namespace Go.Ab
open Go.Proofs
variable {G : Glo} {h : Heap}
def rMayN (c : ICpu) (b : IBk) (fuel : Int) : Bool := !c.bus.off && decide (b.pcs.getD 0 0#32 = c.pc) && decide ((b.pcs.length : Int) ≤ fuel) && allN b.pcs.length fun d => !heardAt c d
theorem rMay_spec (c : ICpu) (b : IBk) (fuel : Int) (hc : b.check = 0) (hcm : c.bus.c.came ≤ c.bus.c.l.length) (hl : c.bus.c.l.length ≤ 256) : Spec Tryz.prog G 16 [.agg c.cells, .agg b.cells, .int .i64 fuel] h (Is (.bool (rMayN c b fuel)) h) := by
  obtain ⟨k1, k2, k3⟩ := check_pcs hc
  have hQ := Quiet25_spec (G := G) (h := h) c b.pcs.length hcm hl (by omega)
  have hM : rMayN c b fuel = (!c.bus.off && decide (b.pcs.getD 0 0#32 = c.pc) && decide ((b.pcs.length : Int) ≤ fuel) && allN b.pcs.length fun d => !heardAt c d) := rfl
  have k1' : 0 < b.pcs.length := k1
  have k1i : (0 : Int) < (b.pcs.length : Int) := by omega
  generalize rMayN c b fuel = Y at *
  generalize (allN b.pcs.length fun d => !heardAt c d) = q at *
  rcases ho : c.bus.off with _ | _
  · rw [ho, Bool.not_false, Bool.true_and] at hM
    by_cases hp : b.pcs.getD 0 0#32 = c.pc
    · rw [decide_eq_true hp, Bool.true_and] at hM
      have hpn : decide (b.pcs.getD 0 0#32 = c.pc) = true := decide_eq_true hp
      by_cases hf : (b.pcs.length : Int) ≤ fuel
      · rw [decide_eq_true hf, Bool.true_and] at hM
        refine Spec.is C16ok rfl ?_
        simp only [push_cast, simprocAttr, ho, k1', k1i, hpn, hf]
        refine hQ.to ?_
        simp only [push_cast, simprocAttr]
        rw [hM]
      · rw [decide_eq_false hf, Bool.false_and] at hM
        refine Spec.is C16ok rfl ?_
        simp only [push_cast, simprocAttr, ho, k1', k1i, hpn, hf]
        rw [hM]
    · rw [decide_eq_false hp, Bool.false_and, Bool.false_and] at hM
      have hpn : decide (b.pcs.getD 0 0#32 = c.pc) = false := decide_eq_false hp
      refine Spec.is C16ok rfl ?_
      simp only [push_cast, simprocAttr, ho, k1', k1i, hpn]
      rw [hM]
  · rw [ho, Bool.not_true, Bool.false_and, Bool.false_and, Bool.false_and] at hM
    refine Spec.is C16ok rfl ?_
    simp only [push_cast, simprocAttr, ho]
    rw [hM]
/-- The same of both. -/
theorem may_eq (c : ICpu) (b : IBk) (fuel : Int) (hc : b.check = 0) (hs : ∀ i, i < c.bus.c.l.length → riseN c.bus.c.l i = true) (ht : c.tick.toNat < 1152921504606846976) (ho : c.bus.t.off.toNat < 1152921504606846976) : mayN c b fuel = rMayN c b fuel := by
  obtain ⟨k1, k2, _⟩ := check_pcs hc
  have hq := quiet_iff c b.pcs.length k1 k2 hs ht ho
  rw [mayN, rMayN]
  congr 1
  rw [Bool.eq_iff_iff, decide_eq_true_eq, hq]
end Go.Ab
end
section
/- The laws of apply: what is small. -/
set_option linter.unusedSimpArgs false
set_option linter.unusedVariables false
set_option maxRecDepth 10000
namespace Go.Ab
open Go.Proofs
variable {G : Glo} {h : Heap}
def lightA (s : ISt) (b : IBk) : Bool := decide (s.size ≤ 1024) && decide (s.parts.length ≤ 30) && decide (s.input.length ≤ 256) && s.right && decide (b.pcs.length ≤ 100) && decide (b.ops.length ≤ 600) && decide (b.exits.length ≤ 200)
def lowA (s : ISt) : Bool := decide (s.tick.toNat < 1152921504606846976) && decide (s.t.off.toNat < 1152921504606846976)
def light25 (s : ISt) (b : IBk) : Bool := lightA s b && (allN b.exits.length fun i => decide ((b.exits.getD i IEx.zero).map.length ≤ 100)) && lowA s
theorem light25_spec (s : ISt) (b : IBk) (he : b.exits.length ≤ 9223372036854775807) (hp : ∀ p ∈ s.parts, p.b.length ≤ 9223372036854775807) : Spec Tryz.prog G 5 [.agg s.cells, .agg b.cells] h (Is (.bool (light25 s b)) h) := by
  have hL : light25 s b = (lightA s b && (allN b.exits.length fun i => decide ((b.exits.getD i IEx.zero).map.length ≤ 100)) && lowA s) := rfl
  have hA : lightA s b = (decide (s.size ≤ 1024) && decide (s.parts.length ≤ 30) && decide (s.input.length ≤ 256) && s.right && decide (b.pcs.length ≤ 100) && decide (b.ops.length ≤ 600) && decide (b.exits.length ≤ 200)) := rfl
  have hR := fun q : s.parts.length ≤ 1000 => rRight18_spec (G := G) (h := h) s q hp
  have hw : lowA s = (decide (s.tick.toNat < 1152921504606846976) && decide (s.t.off.toNat < 1152921504606846976)) := rfl
  generalize light25 s b = X at *
  generalize lowA s = W at *
  generalize lightA s b = Y at *
  generalize s.right = rt at *
  have no : Y = false → (AV.bool false : AV) = AV.bool X := fun e => by rw [hL, e]; rfl
  refine Spec.is C5ok rfl ?_
  simp only [push_cast, simprocAttr]
  refine ⟨fun h1 => ?_, fun h1 => no ?_⟩
  · refine (hR (by omega)).to ?_
    cases rt with
    | false =>
      rw [Bool.and_false, Bool.false_and, Bool.false_and, Bool.false_and] at hA
      have := no hA
      simp only [push_cast, simprocAttr]
      first | done | exact this
    | true =>
      rw [decide_eq_true (by omega), decide_eq_true (by omega), decide_eq_true (by omega), Bool.true_and, Bool.true_and, Bool.true_and, Bool.true_and] at hA
      simp only [push_cast, simprocAttr]
      refine ⟨fun h2 => no ?_, fun h2 => ?_⟩
      · rw [hA]
        simp only [Bool.and_eq_false_iff, decide_eq_false_iff_not]
        omega
      · rw [decide_eq_true (by omega), decide_eq_true (by omega), decide_eq_true (by omega)] at hA
        rw [hA, Bool.and_true, Bool.and_true, Bool.true_and] at hL
        refine lpc.rel [2, 3, 5] (fun m ρ h' => ∃ k : Nat, m = b.exits.length - k ∧ k ≤ b.exits.length ∧ h = h' ∧ (∀ i, i < k → decide ((b.exits.getD i IEx.zero).map.length ≤ 100) = true) ∧
          ρ = [(2, .cp s.cells 0), (3, .cp b.cells 0), (5, .int .i64 (k : Int))]) ⟨_, 0, rfl, by omega, rfl, by intro i hi; omega, rfl⟩ ?_
        rintro m _ _ ⟨k, rfl, hk, rfl, hall, rfl⟩
        by_cases hk2 : k < b.exits.length
        · by_cases hv : (b.exits.getD k IEx.zero).map.length ≤ 100
          · have hv' : ¬ (((b.exits.getD k IEx.zero).map.length : Int) > 100) := by omega
            simp (disch := omega) only [push_cast, simprocAttr, wrap_i64, toNat_ofInt64, Nat.min_eq_left, Int.toNat_of_nonneg, hk2, hv']
            refine ⟨_, _, by omega, .refl _, k + 1, rfl, by omega, rfl, fun i hi => ?_, rfl⟩
            by_cases hik : i = k
            · rw [hik]; exact hv
            · exact of_decide_eq_true (hall i (by omega))
          · have hv' : (((b.exits.getD k IEx.zero).map.length : Int) > 100) := by omega
            simp only [push_cast, simprocAttr, hk2, hv']
            rw [hL, allN_false k hk2 (decide_eq_false hv)]; rfl
        · obtain rfl : k = b.exits.length := by omega
          rw [allN_true hall, Bool.true_and] at hL
          have q : ¬ (b.exits.length < b.exits.length) := by omega
          by_cases h3 : s.tick.toNat < 1152921504606846976
          · have h3' : (s.tick.toNat : Int) < 1152921504606846976 := by omega
            rw [decide_eq_true h3, Bool.true_and] at hw
            by_cases h4 : s.t.off.toNat < 1152921504606846976
            · have h4' : (s.t.off.toNat : Int) < 1152921504606846976 := by omega
              simp only [push_cast, simprocAttr, q, h3', h4']
              rw [hL, hw, decide_eq_true h4]
            · have h4' : ¬ ((s.t.off.toNat : Int) < 1152921504606846976) := by omega
              simp only [push_cast, simprocAttr, q, h3', h4']
              rw [hL, hw, decide_eq_false h4]
          · have h3' : ¬ ((s.tick.toNat : Int) < 1152921504606846976) := by omega
            rw [decide_eq_false h3, Bool.false_and] at hw
            simp only [push_cast, simprocAttr, q, h3']
            rw [hL, hw]
  · rw [hA]
    simp only [Bool.and_eq_false_iff, decide_eq_false_iff_not]
    omega
end Go.Ab
end
section
/- The laws of apply: the example. -/
set_option linter.unusedSimpArgs false
set_option linter.unusedVariables false
set_option maxRecDepth 10000
namespace Go.Ab
open Go.Proofs
variable {G : Glo} {h : Heap}
theorem Reg_spec {H : Heap} {l : Plc} {c : ICpu} {M : IRam} (hm : MachAt H l c M) : Spec Tryz.prog G 21 [.ptr l.p 0, .int .i64 1] H (Is (.int .u32 ((c.regs.toList.getD 1 0#32).toNat : Int)) H) := by
  obtain ⟨v, hc, _⟩ := hm.hc
  have hr : ∀ v, (cpuC c l.bus v)[2]? = some (.int .u32 ((c.regs.toList.getD 1 0#32).toNat : Int)) := fun v => r32_r _ _ _ 1 (by omega)
  have hh : Spec Tryz.prog G 55 [.ptr l.p 0, .int .i64 1] H (Is (.bool true) H) := by
    refine Spec.is C55ok rfl ?_
    simp only [push_cast, simprocAttr]
  refine Spec.is C21ok rfl ?_
  simp only [push_cast, simprocAttr]
  refine hh.to ?_
  simp only [push_cast, simprocAttr, hc, hr]
def W25 : IBk := ⟨[2147483648#32], [⟨1, 0, 0, 1, 0, 0⟩, ⟨2, 0, 0, 4, 0, 0⟩, ⟨3, 0, 1, 28, 0, 0⟩], [⟨1, 2147483652#32, -1, 4, [⟨1, 2⟩]⟩], 0⟩
theorem W25_check : W25.check = 0 := by decide
theorem W25_wf : W25.wf := by
  refine ⟨by decide, by decide, by decide, ?_, by decide, by decide, by decide, ?_⟩ <;> decide
theorem W25_may : askN (newC 64 [] []) W25 1 = 0 := by
  rw [askN, W25_check, if_neg (by simp)]
  have : mayN (newC 64 [] []) W25 1 = true := by
    rw [may_eq _ _ _ W25_check (by intro i hi; exact absurd hi (by simp [newC])) (by decide) (by decide)]
    decide
  rw [this]; rfl
theorem goes25 : Goes 64 [] [] := ⟨by decide, by decide, by decide, (by intro p hp; cases hp), by decide⟩
theorem awake25_spec : Spec Tryz.prog G 6 [] h (Is (.bool true) h) := by
  have hn : Spec Tryz.prog G 20 [.int .i64 64, .nils, .nils] h (CpuNew h 64 [] []) :=
    Spec.args (cpuNew_spec (G := G) goes25) (.cons (ArgLe.refl _ _) (.cons (ArgLe.nils _) (.cons (ArgLe.nils _) .nil)))
  refine Spec.drop ?_
  refine Spec.walk C6ok rfl ?_
  simp only [push_cast, simprocAttr]
  refine hn.mono ?_
  rintro _ H ⟨l, rfl, _, hm, hf, ho⟩
  simp only [push_cast, simprocAttr]
  intro c3 hc3
  refine ⟨bkP W25, H, Le.box hc3, ?_⟩
  simp only [push_cast, simprocAttr]
  refine (mayA_spec (G := G) hm W25_wf 1).to ?_
  rw [W25_may]
  simp only [push_cast, simprocAttr]
  refine (doA_yes (G := G) hm W25_wf 1 (by decide) W25_may W25_check).mono ?_
  rintro _ H2 ⟨rfl, hm2, ho2⟩
  obtain ⟨R, hR, hOut, hD1, hD2⟩ : ∃ R : List (BitVec 32), R.length = 32 ∧ W25.outOf (newC 64 [] []).regs.toList ((IRam.new 64).layP []) = outC R 2147483652 1 4 0 ∧ (doC (newC 64 [] []) W25 ((IRam.new 64).layP [])).regs.toList.getD 1 0#32 = 4#32 ∧ (doC (newC 64 [] []) W25 ((IRam.new 64).layP [])).tick = 1#64 := ⟨[0, 4, 0, 0, 0, 0, 0, 0, 0, 0, 0, 0, 0, 0, 0, 0, 0, 0, 0, 0, 0, 0, 0, 0, 0, 0, 0, 0, 0, 0, 0, 0], rfl, rfl, rfl, rfl⟩
  rw [hOut]
  generalize doC (newC 64 [] []) W25 ((IRam.new 64).layP []) = C2 at *
  simp only [push_cast, simprocAttr]
  intro c5 hc5
  refine ⟨oc_len hR, wkQ.same ?_⟩
  rw [oc_put36 hR]
  have hm5 : MachAt (Ab.upd H2 c5 ⟨outC R 2147483652 1 4 0, 0⟩) l C2 ((W25.ramOf (newC 64 [] []).regs.toList ((IRam.new 64).layP []))) := hm2.upd hc5
  have ol := oc_len (pc := 2147483652#32) (done := 1) (why := 4) (exit := 0) hR
  have o33 := (oc_at (pc := 2147483652#32) (done := 1) (why := 4) (exit := 0) hR).2.1
  obtain ⟨v5, hc5', _⟩ := hm2.hc
  have hRg := Reg_spec (G := G) hm2
  rw [hD1] at hRg
  simp only [push_cast, simprocAttr, ol, o33]
  rw [era_none hc5]
  refine hRg.to ?_
  have ht : ∀ v, (cpuC C2 l.bus v)[42]? = some (.int .u64 1) := fun v => by rw [cpb_42, hD2]; rfl
  simp only [push_cast, simprocAttr, hc5', ht]
  refine ⟨h, fun d x hd => ?_, rfl⟩
  have hn : ¬ l.has d := fun e => by rw [hf d e] at hd; cases hd
  rw [ho2 d hn, ho d hn]
  exact hd
end Go.Ab
end
section
/- The law ApplyKeeps. -/
set_option linter.unusedSimpArgs false
set_option linter.unusedVariables false
set_option maxRecDepth 10000
namespace Go.Ab
open Go.Proofs
variable {G : Glo} {h : Heap}
section
variable (c : ICpu)
@[push_cast] theorem st_s0 (w : BitVec 32) : (stC c).set 0 (.int .u32 (w.toNat : Int)) = stC { c with pc := w } := rfl
@[push_cast] theorem st_s42 (w : BitVec 64) : (stC c).set 42 (.int .u64 (w.toNat : Int)) = stC { c with tick := w } := r32_set _ _ _ _ 9
@[push_cast] theorem st_s43 (w : BitVec 64) : (stC c).set 43 (.int .u64 (w.toNat : Int)) = stC { c with ret := w } := r32_set _ _ _ _ 10
@[push_cast] theorem st_s44 (b : List (BitVec 8)) : (stC c).set 44 (.ro (bys b) b.length) = stC { c with bus := { c.bus with b := b } } := r32_set _ _ _ _ 11
theorem st_sR (r : Rg) : splice (stC c) 1 (wds r.toList) = stC { c with regs := r } := rspl _ _ _ r
end
/-- What a block leaves. -/
def likeC (c c2 : ICpu) : Prop := { c2 with pc := c.pc, regs := c.regs, bus := { c2.bus with b := c.bus.b }, tick := c.tick, ret := c.ret } = c
theorem like_do (c : ICpu) (b : IBk) (M : IRam) : likeC c (doC c b M) := rfl
theorem like_self (c : ICpu) : likeC c c := rfl
/-- A block, done or not: the machine behind it. -/
theorem doA_any {H : Heap} {l : Plc} {c : ICpu} {M : IRam} {b : IBk} (hm : MachAt H l c M) (hw : b.wf) (fuel : Int) (hx : ∀ e ∈ b.exits, e.map.length ≤ 1000) :
    Spec Tryz.prog G 11 [.ptr l.p 0, bkP b, .int .i64 fuel] H (fun r H' => ∃ (o : List AV) (e : Int) (c2 : ICpu) (M2 : IRam), r = .tup [.agg o, .int .i64 e] ∧ likeC c c2 ∧ MachAt H' l c2 M2 ∧ ∀ d, ¬ l.has d → H' d = H d) := by
  by_cases hn : askN c b fuel = 0
  · have hc : b.check = 0 := by
      rw [askN] at hn
      by_cases h0 : b.check = 0
      · exact h0
      · rw [if_pos h0] at hn; exact absurd hn h0
    refine (doA_yes hm hw fuel hx hn hc).mono ?_
    rintro _ H' ⟨rfl, h1, h2⟩
    exact ⟨_, _, _, _, rfl, like_do c b M, h1, h2⟩
  · refine (doA_no hm hw fuel hn).mono ?_
    rintro _ _ ⟨rfl, rfl⟩
    exact ⟨_, _, _, _, rfl, like_self c, hm, fun _ _ => rfl⟩
theorem light25_facts {s : ISt} {b : IBk} (h : light25 s b = true) : b.wf ∧ (∀ e ∈ b.exits, e.map.length ≤ 100) ∧ s.parts.length ≤ 30 ∧ s.right = true ∧ s.tick.toNat < 1152921504606846976 ∧ s.t.off.toNat < 1152921504606846976 := by
  simp only [light25, lightA, lowA, Bool.and_eq_true, decide_eq_true_eq] at h
  obtain ⟨⟨⟨⟨⟨⟨⟨⟨h1, h2⟩, h3⟩, h4⟩, h5⟩, h6⟩, h7⟩, h8⟩, h9, h10⟩ := h
  have hm : ∀ e ∈ b.exits, e.map.length ≤ 100 := by
    intro e he
    obtain ⟨i, hi, rfl⟩ := List.getElem_of_mem he
    have := allN_get h8 i hi
    simpa [hi] using this
  exact ⟨⟨by omega, by omega, by omega, fun e he => (by have := hm e he; omega), by omega, by omega, by omega, fun e he => (by have := hm e he; omega)⟩, hm, h2, h4, h9, h10⟩
theorem lawKeeps_spec (s : ISt) (b : IBk) (he : b.exits.length ≤ 9223372036854775807) (hp : ∀ p ∈ s.parts, p.b.length ≤ 9223372036854775807) : Spec Tryz.prog G 4 [.agg s.cells, .agg b.cells] h (Is (.bool true) h) := by
  have hL := fun h : Heap => light25_spec (G := G) (h := h) s b he hp
  have hA := fun h : Heap => awake25_spec (G := G) (h := h)
  have ball : partOf b.cells 0 (some 4) = some (.agg b.cells) := partOf_all rfl
  refine Spec.drop ?_
  refine Spec.walk C4ok rfl ?_
  simp only [push_cast, simprocAttr]
  intro b2 hb2
  have m2 : upd h b2 ⟨s.cells, 0⟩ b2 = some ⟨s.cells, 0⟩ := upd_same _ _ _
  have s2 : Sub h (upd h b2 ⟨s.cells, 0⟩) := (Sub.refl h).alloc hb2
  have o2 : ∀ d, d ≠ b2 → upd h b2 ⟨s.cells, 0⟩ d = h d := fun d hd => upd_ne hd
  generalize upd h b2 ⟨s.cells, 0⟩ = H2 at m2 s2 o2 ⊢
  refine (hL H2).to ?_
  rcases hl : light25 s b with _ | _
  · simp only [push_cast, simprocAttr]
    refine (hA H2).to ?_
    simp only [push_cast, simprocAttr]
    exact ⟨h, s2, rfl⟩
  · by_cases h0 : b.pcs.length = 0
    · simp only [push_cast, simprocAttr, h0]
      refine (hA H2).to ?_
      simp only [push_cast, simprocAttr]
      exact ⟨h, s2, rfl⟩
    · have h0' : ¬ ((b.pcs.length : Int) = 0) := by omega
      have h0n : 0 < b.pcs.length := by omega
      have h0i : (0 : Int) < (b.pcs.length : Int) := by omega
      simp only [push_cast, simprocAttr, m2, h0', h0n, h0i]
      obtain ⟨hw, hx, hpl, hr0, ht, hof⟩ := light25_facts hl
      have hs3 : ∀ X, Sub h (upd H2 b2 X) := fun X x y hx => by rw [upd_ne (fun e => by rw [e, hb2] at hx; cases hx)]; exact s2 _ _ hx
      have hR := fun h : Heap => rRight18_spec (G := G) (h := h) { s with pc := b.pcs.getD 0 0#32 } (show s.parts.length ≤ 1000 by omega) hp
      refine (hR _).to ?_
      have hs3 := hs3 ⟨ISt.cells { s with pc := b.pcs.getD 0 0#32 }, 0⟩
      have m3 := upd_same H2 b2 ⟨ISt.cells { s with pc := b.pcs.getD 0 0#32 }, 0⟩
      generalize hs' : ({ s with pc := b.pcs.getD 0 0#32 } : ISt) = s' at *
      have hpl' : s'.parts.length ≤ 30 := by rw [← hs']; exact hpl
      generalize upd H2 b2 ⟨s'.cells, 0⟩ = H3 at *
      rcases hr : s'.right with _ | _
      · simp only [push_cast, simprocAttr]
        refine (hA H3).to ?_
        simp only [push_cast, simprocAttr]
        exact ⟨h, hs3, rfl⟩
      · obtain ⟨n, hn, hg⟩ := ISt.goes hr (by omega)
        simp only [push_cast, simprocAttr, m3]
        refine (lBegin_spec (G := G) s' n hn hg).mono ?_
        rintro _ H4 ⟨l, rfl, ⟨lo, le⟩, hm, hf, ho⟩
        simp only [push_cast, simprocAttr]
        refine (State_spec (G := G) hm lo le).to ?_
        have hsz : ∀ c : ICpu, splice [.int .u32 0, .int .u32 0, .int .u32 0, .int .u32 0, .int .u32 0, .int .u32 0, .int .u32 0, .int .u32 0, .int .u32 0, .int .u32 0, .int .u32 0, .int .u32 0, .int .u32 0, .int .u32 0, .int .u32 0, .int .u32 0, .int .u32 0, .int .u32 0, .int .u32 0, .int .u32 0, .int .u32 0, .int .u32 0, .int .u32 0, .int .u32 0, .int .u32 0, .int .u32 0, .int .u32 0, .int .u32 0, .int .u32 0, .int .u32 0, .int .u32 0, .int .u32 0, .int .u32 0, .int .u32 0, .int .u32 0, .int .u32 0, .int .u32 0, .int .u32 0, .int .u32 0, .int .u32 0, .int .u64 0, .int .u64 0, .int .u64 0, .int .u64 0, .nils, .nils, .nils, .bool false, .int .i64 0, .int .u64 0, .int .u64 0, .bool false, .bool false, .int .u32 0, .nils] 0 (stC c) = stC c := fun c => by
          rw [splice_len (by rw [st_len]; omega), st_len]
          simp
        generalize beginC s' n = c at *
        simp only [push_cast, simprocAttr, hsz]
        intro c6 hc6
        rw [era_none hc6]
        refine (Own_spec (G := G) b hw).to ?_
        simp only [push_cast, simprocAttr]
        refine (doA_any (G := G) hm hw 32 (fun e he => by have := hx e he; omega)).mono ?_
        rintro _ H5 ⟨o, e, c2, M2, rfl, hlk, hm5, ho5⟩
        simp only [push_cast, simprocAttr]
        refine (State_spec (G := G) hm5 lo le).to ?_
        simp only [push_cast, simprocAttr]
        intro c7 hc7
        have q7 : ∀ X, upd H5 c7 X c7 = some X := fun X => upd_same _ _ _
        have hRg := fun c' : ICpu => st_sR c' c.regs
        simp only [push_cast, simprocAttr, hsz, q7, hRg]
        unfold likeC at hlk
        rw [hlk]
        have e1 : c.ev = [] := by
          obtain ⟨v, _, hr⟩ := hm.hc
          rw [le] at hr
          exact List.eq_nil_of_length_eq_zero hr.2.2
        have e2 : c.bus.c.out = [] := by
          obtain ⟨v, _, hr⟩ := hm.hn
          rw [lo] at hr
          exact List.eq_nil_of_length_eq_zero hr.2.2
        have e3 := hm.hf.len
        have e4 := hm.hr.wf.2.1
        rw [hm.hm] at e4
        refine (cpuSame_spec (G := G) c e1 (by omega) (by omega) (by rw [e2]; simp)).to ?_
        simp only [push_cast, simprocAttr]
        refine (hA _).to ?_
        simp only [push_cast, simprocAttr]
        refine ⟨h, fun d x hd => ?_, rfl⟩
        have h3 := hs3 _ _ hd
        have hnl : ¬ l.has d := fun e => by rw [hf d e] at h3; cases h3
        have h5 : H5 d = some x := by rw [ho5 d hnl, ho d hnl]; exact h3
        rw [upd_ne (fun e => by rw [e, hc7] at h5; cases h5)]
        exact h5
end Go.Ab
end
section
/- The machine behind a block: the document's. -/
set_option linter.unusedSimpArgs false
set_option linter.unusedVariables false
set_option maxRecDepth 10000
namespace Go.Ab
open Go.Proofs
variable {G : Glo} {h : Heap}
/-- A machine's cells, all zero. -/
def Z56 : List AV := [.int .u32 0, .int .u32 0, .int .u32 0, .int .u32 0, .int .u32 0, .int .u32 0, .int .u32 0, .int .u32 0, .int .u32 0, .int .u32 0, .int .u32 0, .int .u32 0, .int .u32 0, .int .u32 0, .int .u32 0, .int .u32 0, .int .u32 0, .int .u32 0, .int .u32 0, .int .u32 0, .int .u32 0, .int .u32 0, .int .u32 0, .int .u32 0, .int .u32 0, .int .u32 0, .int .u32 0, .int .u32 0, .int .u32 0, .int .u32 0, .int .u32 0, .int .u32 0, .int .u32 0, .int .u32 0, .int .u32 0, .int .u32 0, .int .u32 0, .int .u32 0, .int .u32 0, .int .u32 0, .int .u64 0, .int .u64 0, .int .u64 0, .int .u64 0, .nils, .nils, .int .i64 0, .nils, .bool false, .nils, .int .u64 0, .int .u64 0, .bool false, .bool false, .int .u32 0, .nils]
def Z39 : List AV := [.int .u32 0, .int .u32 0, .int .u32 0, .int .u32 0, .int .u32 0, .int .u32 0, .int .u32 0, .int .u32 0, .int .u32 0, .int .u32 0, .int .u32 0, .int .u32 0, .int .u32 0, .int .u32 0, .int .u32 0, .int .u32 0, .int .u32 0, .int .u32 0, .int .u32 0, .int .u32 0, .int .u32 0, .int .u32 0, .int .u32 0, .int .u32 0, .int .u32 0, .int .u32 0, .int .u32 0, .int .u32 0, .int .u32 0, .int .u32 0, .int .u32 0, .int .u32 0, .int .u32 0, .int .i64 0, .int .i64 0, .int .i64 0, .nils, .nils, .nils]
/-- Two blocks, and what was there. -/
structure Jq (h H : Heap) (b2 b4 : Nat) (X Z : Blk) : Prop where
  k2 : H b2 = some X
  k4 : H b4 = some Z
  s : Sub h H
theorem Jq.al {h H : Heap} {b2 b4 a : Nat} {X Z : Blk} (j : Jq h H b2 b4 X Z) (ha : H a = none) (W : Blk) : Jq h (upd H a W) b2 b4 X Z ∧ a ≠ b2 ∧ a ≠ b4 ∧ h a = none :=
  have n2 : a ≠ b2 := fun e => by rw [e, j.k2] at ha; cases ha
  have n4 : a ≠ b4 := fun e => by rw [e, j.k4] at ha; cases ha
  ⟨⟨by rw [upd_ne (Ne.symm n2)]; exact j.k2, by rw [upd_ne (Ne.symm n4)]; exact j.k4, fun x y hx => (Sub.refl H).alloc ha _ _ (j.s _ _ hx)⟩, n2, n4, j.s.none ha⟩
theorem Jq.dl {h H : Heap} {b2 b4 a : Nat} {X Z : Blk} (j : Jq h H b2 b4 X Z) (n2 : a ≠ b2) (n4 : a ≠ b4) (hn : h a = none) : Jq h (del H a) b2 b4 X Z :=
  ⟨by rw [del_ne (Ne.symm n2)]; exact j.k2, by rw [del_ne (Ne.symm n4)]; exact j.k4, fun x y hx => by rw [del_ne (fun e => by rw [e, hn] at hx; cases hx)]; exact j.s _ _ hx⟩
theorem up_at {H : Heap} {a b : Nat} {X W : Blk} (hb : H b = none) (ha : H a = some X) : upd H b W a = some X ∧ a ≠ b :=
  have n : a ≠ b := fun e => by rw [← e, ha] at hb; cases hb
  ⟨by rw [upd_ne n]; exact ha, n⟩
theorem oT_regs {regs : List (BitVec 32)} (hl : regs.length = 32) {pc : BitVec 32} {d y x : Int} {T : List AV} : partOf (oT regs pc d y x T) 0 (some 32) = some (.agg (wds regs)) ∧ (oT regs pc d y x T)[32]? = some (.int .u32 (pc.toNat : Int)) ∧ (oT regs pc d y x T)[33]? = some (.int .i64 d) ∧ (oT regs pc d y x T)[34]? = some (.int .i64 y) ∧ (oT regs pc d y x T)[35]? = some (.int .i64 x) := by
  have hw : (wds regs).length = 32 := by simp [wds, hl]
  have ho := oc_len (pc := pc) (done := d) (why := y) (exit := x) hl
  obtain ⟨o1, o2, o3, o4⟩ := oc_at (pc := pc) (done := d) (why := y) (exit := x) hl
  refine ⟨?_, ?_, ?_, ?_, ?_⟩
  · simp only [partOf]
    rw [if_pos (by simp [oT, ho]; omega), oT, outC, List.drop_zero, List.append_assoc, List.take_append_of_le_length (by omega), List.take_of_length_le (by omega)]
  all_goals rw [oT, List.getElem?_append_left (by rw [ho]; omega)]; assumption
theorem oT_rams {regs : List (BitVec 32)} (hl : regs.length = 32) {pc : BitVec 32} {d y x : Int} {M : IRam} : (oT regs pc d y x M.cells)[36]? = some (byt M.b) ∧ (oT regs pc d y x M.cells)[37]? = some (.ro (bos M.w) M.w.length) := by
  have ho := oc_len (pc := pc) (done := d) (why := y) (exit := x) hl
  refine ⟨?_, ?_⟩ <;> (rw [oT, List.getElem?_append_right (by omega), ho]; rfl)
theorem del_sub {H : Heap} {b : Nat} : Sub (del H b) H := fun c x hx => by
  by_cases e : c = b
  · have : del H b b = none := by simp [del_at]
    rw [e, this] at hx; cases hx
  · rw [del_ne e] at hx; exact hx
def ramZ (B : List (BitVec 8)) : IRam := ⟨B, List.replicate (B.length / 64) false, List.replicate (B.length / 64) 0⟩
theorem rDo_own {b : IBk} {regs : List (BitVec 32)} {B : List (BitVec 8)} {Hk : Heap} {b7 b9 p : Nat} (hp : B.length / 64 = p) (hM : (ramZ B).wf) (hc : b.check = 0) (hlen : regs.length = 32) (hm : ∀ e ∈ b.exits, e.map.length ≤ 1000)
    (h7 : Hk b7 = some ⟨List.replicate p (.bool false), 0⟩) (h9 : Hk b9 = some ⟨List.replicate p (.int .u64 0), 0⟩) (hne : b7 ≠ b9) :
    Spec Tryz.prog G 43 [.agg b.cells, .agg (wds regs), .agg [byt B, .sl b7 0 p p, .sl b9 0 p p]] Hk (Is (.agg (rOutOf b regs (ramZ B))) (del (del Hk b7) b9)) := by
  obtain ⟨d1, d2, d3⟩ := new_cells p
  have e1 : Le (.agg [byt B, .sl b7 0 p p, .sl b9 0 p p]) Hk (.agg [byt B, .ro (List.replicate p (.bool false)) p, .sl b9 0 p p]) (del Hk b7) :=
    Le.aggd (i := 1) (L := [byt B, .sl b7 0 p p, .sl b9 0 p p]) rfl h7 (fun e => by rw [e]; rfl)
  have e2 : Le (.agg [byt B, .ro (List.replicate p (.bool false)) p, .sl b9 0 p p]) (del Hk b7) (.agg [byt B, .ro (List.replicate p (.bool false)) p, .ro (List.replicate p (.int .u64 0)) p]) (del (del Hk b7) b9) :=
    Le.aggd (i := 2) (L := [byt B, .ro (List.replicate p (.bool false)) p, .sl b9 0 p p]) rfl (sp := 0) (by rw [del_ne (Ne.symm hne)]; exact h9) (fun e => by rw [e]; rfl)
  have hs := rDo_spec (G := G) (h := del (del Hk b7) b9) (regs := regs) hM hc hlen hm
  have hv : ramV (ramZ B) = .agg [byt B, .ro (List.replicate p (.bool false)) p, .ro (List.replicate p (.int .u64 0)) p] := by
    rw [ramV, IRam.cells, ramZ]
    simp only [hp, d2, d3, List.length_replicate]
  rw [hv] at hs
  exact Spec.froze (l1 := [.agg b.cells, .agg (wds regs)]) (l2 := []) hs (le_trans e1 e2) (fun c x hx => del_sub c x (del_sub c x hx))
theorem rDo25_spec (c : ICpu) (b : IBk) (hM : (ramZ c.bus.b).wf) (hc : b.check = 0) (hx : ∀ e ∈ b.exits, e.map.length ≤ 1000) : Spec Tryz.prog G 17 [.agg c.cells, .agg b.cells] h (Is (.agg (doC c b (ramZ c.bus.b)).cells) h) := by
  have hlen : c.regs.toList.length = 32 := by simp
  obtain ⟨p, hp⟩ : ∃ p, c.bus.b.length / 64 = p := ⟨_, rfl⟩
  have hw := hM
  unfold IRam.wf ramZ at hw
  simp only at hw
  have hq : (c.bus.b.length : Int).tdiv 64 = (p : Int) := by rw [← hp]; simp
  have z2 : ((p : Int) - (p : Int)).toNat = 0 := by omega
  have bpa : partOf b.cells 0 (some 4) = some (.agg b.cells) := partOf_all rfl
  have tail : ∀ (b2 b4 : Nat) (HF : Heap) (b6 : Nat), HF b2 = some ⟨c.cells, 0⟩ → HF b4 = some ⟨Z56, 0⟩ → HF b6 = some ⟨rOutOf b c.regs.toList (ramZ c.bus.b), 0⟩ → h b2 = none → h b4 = none → b2 ≠ b4 → b2 ≠ b6 → Sub h HF → wpc Tryz.prog G Tryz.f17.ntmps C17_14 (retQ C17r (IsS (.agg (doC c b (ramZ c.bus.b)).cells) h)) [(2, .ptr b2 0), (4, .ptr b4 0), (6, .ptr b6 0)] HF := by
    intro b2 b4 HF b6 e2 e4 e6 n2 n4 n24 n26 eS
    have hsp : ∀ C : ICpu, splice Z56 0 C.cells = C.cells := fun C => by rw [splice_len (by rw [cpu_len]; omega), cpu_len]; simp [Z56]
    have hdo : doC c b (ramZ c.bus.b) = { c with pc := leaveP (b.ex (b.exitOf c.regs.toList (ramZ c.bus.b)).toNat) (runN c.regs.toList b.ops [] (ramZ c.bus.b)).2.1, regs := rgOf (leaveR (b.ex (b.exitOf c.regs.toList (ramZ c.bus.b)).toNat) c.regs.toList (runN c.regs.toList b.ops [] (ramZ c.bus.b)).2.1), tick := c.tick + BitVec.ofInt 64 (b.ex (b.exitOf c.regs.toList (ramZ c.bus.b)).toNat).done, ret := c.ret + BitVec.ofInt 64 (b.ex (b.exitOf c.regs.toList (ramZ c.bus.b)).toNat).done, bus := { c.bus with b := (b.ramOf c.regs.toList (ramZ c.bus.b)).b } } := rfl
    have hOut : rOutOf b c.regs.toList (ramZ c.bus.b) = oT (leaveR (b.ex (b.exitOf c.regs.toList (ramZ c.bus.b)).toNat) c.regs.toList (runN c.regs.toList b.ops [] (ramZ c.bus.b)).2.1) (leaveP (b.ex (b.exitOf c.regs.toList (ramZ c.bus.b)).toNat) (runN c.regs.toList b.ops [] (ramZ c.bus.b)).2.1) (b.ex (b.exitOf c.regs.toList (ramZ c.bus.b)).toNat).done (b.ex (b.exitOf c.regs.toList (ramZ c.bus.b)).toNat).why (b.exitOf c.regs.toList (ramZ c.bus.b)) (b.ramOf c.regs.toList (ramZ c.bus.b)).cells := rfl
    have hR : (leaveR (b.ex (b.exitOf c.regs.toList (ramZ c.bus.b)).toNat) c.regs.toList (runN c.regs.toList b.ops [] (ramZ c.bus.b)).2.1).length = 32 := by rw [leaveR, foldR_len]; simp
    rw [hOut] at e6
    rw [hdo]
    generalize leaveR (b.ex (b.exitOf c.regs.toList (ramZ c.bus.b)).toNat) c.regs.toList (runN c.regs.toList b.ops [] (ramZ c.bus.b)).2.1 = R at *
    generalize leaveP (b.ex (b.exitOf c.regs.toList (ramZ c.bus.b)).toNat) (runN c.regs.toList b.ops [] (ramZ c.bus.b)).2.1 = Pc at *
    generalize (b.ex (b.exitOf c.regs.toList (ramZ c.bus.b)).toNat).done = dn at *
    generalize (b.ex (b.exitOf c.regs.toList (ramZ c.bus.b)).toNat).why = wh at *
    generalize b.exitOf c.regs.toList (ramZ c.bus.b) = xn at *
    generalize b.ramOf c.regs.toList (ramZ c.bus.b) = M' at *
    obtain ⟨o0, o32, o33, o34, o35⟩ := oT_regs (regs := R) hR (pc := Pc) (d := dn) (y := wh) (x := xn) (T := M'.cells)
    obtain ⟨o36, o37⟩ := oT_rams (regs := R) hR (pc := Pc) (d := dn) (y := wh) (x := xn) (M := M')
    generalize oT R Pc dn wh xn M'.cells = OT at *
    have n42 := Ne.symm n24
    have n62 := Ne.symm n26
    have q2 : ∀ X, upd HF b2 X b2 = some X := fun X => upd_same _ _ _
    have q6 : ∀ X, upd HF b2 X b6 = some ⟨OT, 0⟩ := fun X => by rw [upd_ne n62]; exact e6
    have q4 : ∀ X, upd HF b2 X b4 = some ⟨Z56, 0⟩ := fun X => by rw [upd_ne n42]; exact e4
    have hsr : ∀ C : ICpu, splice C.cells 1 (wds R) = ICpu.cells { C with regs := rgOf R } := fun C => cpu_sr C R hR
    have uu : ∀ X Y, upd (upd HF b2 X) b2 Y = upd HF b2 Y := fun X Y => upd_upd _ _ _ _
    simp only [push_cast, simprocAttr, e2, e6, q2, q6, q4, hsp, hsr, o0, o32, o33, o36, uu]
    refine ⟨hR, Nat.le_refl _, fun x y hx => ?_⟩
    rw [upd_ne (fun e => by rw [e, n4] at hx; cases hx), upd_ne (fun e => by rw [e, n2] at hx; cases hx)]
    exact eS _ _ hx
  refine Spec.is C17ok rfl ?_
  show wpc _ _ _ (.seq [2, 3, 4] C17_0 (.seq [2, 3, 4, 5] C17_1 (.seq [2, 4, 6] C17_2 C17_14))) _ _ _
  generalize C17_14 = Y at tail ⊢
  simp only [push_cast, simprocAttr]
  intro b2 hb2
  have m2 : upd h b2 ⟨c.cells, 0⟩ b2 = some ⟨c.cells, 0⟩ := upd_same _ _ _
  have s2 : Sub h (upd h b2 ⟨c.cells, 0⟩) := (Sub.refl h).alloc hb2
  generalize upd h b2 ⟨c.cells, 0⟩ = H2 at m2 s2 ⊢
  intro b4 hb4
  have n24 : b2 ≠ b4 := fun e => by rw [← e, m2] at hb4; cases hb4
  have m4 : upd H2 b4 ⟨Z56, 0⟩ b4 = some ⟨Z56, 0⟩ := upd_same _ _ _
  have k2 : upd H2 b4 ⟨Z56, 0⟩ b2 = some ⟨c.cells, 0⟩ := by rw [upd_ne n24]; exact m2
  have s4 : Sub h (upd H2 b4 ⟨Z56, 0⟩) := fun x y hx => (Sub.refl H2).alloc hb4 _ _ (s2 _ _ hx)
  rw [← Z56.eq_1]
  generalize upd H2 b4 ⟨Z56, 0⟩ = H at m4 k2 s4 ⊢
  have hZ39 : Z39.length = 39 := rfl
  have hlO : (rOutOf b c.regs.toList (ramZ c.bus.b)).length = 39 := by
    have hR : (leaveR (b.ex (b.exitOf c.regs.toList (ramZ c.bus.b)).toNat) c.regs.toList (runN c.regs.toList b.ops [] (ramZ c.bus.b)).2.1).length = 32 := by rw [leaveR, foldR_len]; simp
    exact oT_len hR rfl
  have hb4' := s2.none hb4
  have fin : ∀ (HD : Heap) (b6 : Nat), Jq h HD b2 b4 ⟨c.cells, 0⟩ ⟨Z56, 0⟩ → b6 ≠ b2 → b6 ≠ b4 → h b6 = none → wpc Tryz.prog G Tryz.f17.ntmps Y (retQ C17r (IsS (.agg (doC c b (ramZ c.bus.b)).cells) h)) [(2, .ptr b2 0), (4, .ptr b4 0), (6, .ptr b6 0)] (upd HD b6 ⟨rOutOf b c.regs.toList (ramZ c.bus.b), 0⟩) := fun HD b6 j x6 y6 z6 =>
    tail b2 b4 _ b6 (by rw [upd_ne (Ne.symm x6)]; exact j.k2) (by rw [upd_ne (Ne.symm y6)]; exact j.k4) (upd_same _ _ _) hb2 hb4' n24 (Ne.symm x6) (fun x y hx => by rw [upd_ne (fun e => by rw [e, z6] at hx; cases hx)]; exact j.s _ _ hx)
  have hzO : splice Z39 0 (rOutOf b c.regs.toList (ramZ c.bus.b)) = rOutOf b c.regs.toList (ramZ c.bus.b) := by
    rw [splice_len (by rw [hlO]; omega), Nat.zero_add, hlO]; simp [Z39]
  have j0 : Jq h H b2 b4 ⟨c.cells, 0⟩ ⟨Z56, 0⟩ := ⟨k2, m4, s4⟩
  have hp1 : (p : Int) ≤ 1024 := by omega
  have q44 : c.cells[44]? = some (byt c.bus.b) := cpu_44 c
  clear tail
  simp (disch := omega) only [push_cast, simprocAttr, wrap_i64, toNat_ofInt64, Nat.min_eq_left, Int.toNat_of_nonneg, ← Z39.eq_1, k2, hq, bpa, z2]
  refine ⟨?_, ?_, ?_⟩
  · skip
    refine ⟨by omega, by omega, by omega, fun b7 h7 => ?_⟩
    obtain ⟨j_1, x7, y7, z7⟩ := j0.al h7 ⟨List.replicate p (.bool false), 0⟩
    have s7 := upd_same H b7 ⟨List.replicate p (.bool false), 0⟩
    generalize upd H b7 ⟨List.replicate p (.bool false), 0⟩ = H_1 at *
    refine ⟨⟨by rw [j_1.k2]; exact cpu_regs c, by rw [j_1.k2]; exact q44⟩, ?_⟩
    refine ⟨?_, ?_⟩
    · skip
      refine ⟨by omega, by omega, by omega, fun b9 h9 => ?_⟩
      obtain ⟨j_2, x9, y9, z9⟩ := j_1.al h9 ⟨List.replicate p (.int .u64 0), 0⟩
      obtain ⟨s7, n79⟩ := up_at (W := ⟨List.replicate p (.int .u64 0), 0⟩) h9 s7
      have s9 := upd_same H_1 b9 ⟨List.replicate p (.int .u64 0), 0⟩
      generalize upd H_1 b9 ⟨List.replicate p (.int .u64 0), 0⟩ = H_2 at *
      refine ⟨⟨by rw [j_2.k2]; exact cpu_regs c, by rw [j_2.k2]; exact q44⟩, ?_⟩
      refine ⟨?_, ?_⟩
      · skip
        refine (rDo_own (G := G) hp hM hc hlen hx s7 s9 n79).to ?_
        have j_2d := (j_2.dl x7 y7 z7).dl x9 y9 z9
        generalize del (del H_2 b7) b9 = HD at *
        simp only [push_cast, simprocAttr, j_2d.k2, ← Z39.eq_1]
        intro b6 h6
        obtain ⟨jf, x6, y6, z6⟩ := j_2d.al h6 ⟨Z39, 0⟩
        have f6 := upd_same HD b6 ⟨Z39, 0⟩
        generalize upd HD b6 ⟨Z39, 0⟩ = HE at *
        simp only [push_cast, simprocAttr, f6, hzO, hlO, hZ39, jf.k2, cpu_regs, cpu_44]
        exact fin HD b6 j_2d x6 y6 z6
      · skip
        refine fun b6 h6 => ?_
        obtain ⟨j_3, x6, y6, z6⟩ := j_2.al h6 ⟨Z39, 0⟩
        obtain ⟨s7, n76⟩ := up_at (W := ⟨Z39, 0⟩) h6 s7
        obtain ⟨s9, n96⟩ := up_at (W := ⟨Z39, 0⟩) h6 s9
        have s6 := upd_same H_2 b6 ⟨Z39, 0⟩
        generalize upd H_2 b6 ⟨Z39, 0⟩ = H_3 at *
        refine ⟨⟨by rw [j_3.k2]; exact cpu_regs c, by rw [j_3.k2]; exact q44⟩, ?_⟩
        refine (rDo_own (G := G) hp hM hc hlen hx s7 s9 n79).to ?_
        have j_3d := (j_3.dl x7 y7 z7).dl x9 y9 z9
        have f6 : del (del H_3 b7) b9 b6 = some ⟨Z39, 0⟩ := by rw [del_ne (Ne.symm n96), del_ne (Ne.symm n76)]; exact s6
        generalize del (del H_3 b7) b9 = HD at *
        simp only [push_cast, simprocAttr, f6, hzO, hlO, hZ39, j_3d.k2, cpu_regs, cpu_44]
        exact fin HD b6 j_3d x6 y6 z6
    · skip
      refine fun b6 h6 => ?_
      obtain ⟨j_4, x6, y6, z6⟩ := j_1.al h6 ⟨Z39, 0⟩
      obtain ⟨s7, n76⟩ := up_at (W := ⟨Z39, 0⟩) h6 s7
      have s6 := upd_same H_1 b6 ⟨Z39, 0⟩
      generalize upd H_1 b6 ⟨Z39, 0⟩ = H_4 at *
      refine ⟨⟨by rw [j_4.k2]; exact cpu_regs c, by rw [j_4.k2]; exact q44⟩, ?_⟩
      refine ⟨by omega, by omega, by omega, fun b9 h9 => ?_⟩
      obtain ⟨j_5, x9, y9, z9⟩ := j_4.al h9 ⟨List.replicate p (.int .u64 0), 0⟩
      obtain ⟨s7, n79⟩ := up_at (W := ⟨List.replicate p (.int .u64 0), 0⟩) h9 s7
      obtain ⟨s6, n69⟩ := up_at (W := ⟨List.replicate p (.int .u64 0), 0⟩) h9 s6
      have s9 := upd_same H_4 b9 ⟨List.replicate p (.int .u64 0), 0⟩
      generalize upd H_4 b9 ⟨List.replicate p (.int .u64 0), 0⟩ = H_5 at *
      refine ⟨⟨by rw [j_5.k2]; exact cpu_regs c, by rw [j_5.k2]; exact q44⟩, ?_⟩
      refine (rDo_own (G := G) hp hM hc hlen hx s7 s9 n79).to ?_
      have j_5d := (j_5.dl x7 y7 z7).dl x9 y9 z9
      have f6 : del (del H_5 b7) b9 b6 = some ⟨Z39, 0⟩ := by rw [del_ne n69, del_ne (Ne.symm n76)]; exact s6
      generalize del (del H_5 b7) b9 = HD at *
      simp only [push_cast, simprocAttr, f6, hzO, hlO, hZ39, j_5d.k2, cpu_regs, cpu_44]
      exact fin HD b6 j_5d x6 y6 z6
  · skip
    refine ⟨by omega, by omega, by omega, fun b9 h9 => ?_⟩
    obtain ⟨j_6, x9, y9, z9⟩ := j0.al h9 ⟨List.replicate p (.int .u64 0), 0⟩
    have s9 := upd_same H b9 ⟨List.replicate p (.int .u64 0), 0⟩
    generalize upd H b9 ⟨List.replicate p (.int .u64 0), 0⟩ = H_6 at *
    refine ⟨⟨by rw [j_6.k2]; exact cpu_regs c, by rw [j_6.k2]; exact q44⟩, ?_⟩
    refine ⟨?_, ?_⟩
    · skip
      refine ⟨by omega, by omega, by omega, fun b7 h7 => ?_⟩
      obtain ⟨j_7, x7, y7, z7⟩ := j_6.al h7 ⟨List.replicate p (.bool false), 0⟩
      obtain ⟨s9, n97⟩ := up_at (W := ⟨List.replicate p (.bool false), 0⟩) h7 s9
      have s7 := upd_same H_6 b7 ⟨List.replicate p (.bool false), 0⟩
      generalize upd H_6 b7 ⟨List.replicate p (.bool false), 0⟩ = H_7 at *
      refine ⟨⟨by rw [j_7.k2]; exact cpu_regs c, by rw [j_7.k2]; exact q44⟩, ?_⟩
      refine ⟨?_, ?_⟩
      · skip
        refine (rDo_own (G := G) hp hM hc hlen hx s7 s9 (Ne.symm n97)).to ?_
        have j_7d := (j_7.dl x7 y7 z7).dl x9 y9 z9
        generalize del (del H_7 b7) b9 = HD at *
        simp only [push_cast, simprocAttr, j_7d.k2, ← Z39.eq_1]
        intro b6 h6
        obtain ⟨jf, x6, y6, z6⟩ := j_7d.al h6 ⟨Z39, 0⟩
        have f6 := upd_same HD b6 ⟨Z39, 0⟩
        generalize upd HD b6 ⟨Z39, 0⟩ = HE at *
        simp only [push_cast, simprocAttr, f6, hzO, hlO, hZ39, jf.k2, cpu_regs, cpu_44]
        exact fin HD b6 j_7d x6 y6 z6
      · skip
        refine fun b6 h6 => ?_
        obtain ⟨j_8, x6, y6, z6⟩ := j_7.al h6 ⟨Z39, 0⟩
        obtain ⟨s9, n96⟩ := up_at (W := ⟨Z39, 0⟩) h6 s9
        obtain ⟨s7, n76⟩ := up_at (W := ⟨Z39, 0⟩) h6 s7
        have s6 := upd_same H_7 b6 ⟨Z39, 0⟩
        generalize upd H_7 b6 ⟨Z39, 0⟩ = H_8 at *
        refine ⟨⟨by rw [j_8.k2]; exact cpu_regs c, by rw [j_8.k2]; exact q44⟩, ?_⟩
        refine (rDo_own (G := G) hp hM hc hlen hx s7 s9 (Ne.symm n97)).to ?_
        have j_8d := (j_8.dl x7 y7 z7).dl x9 y9 z9
        have f6 : del (del H_8 b7) b9 b6 = some ⟨Z39, 0⟩ := by rw [del_ne (Ne.symm n96), del_ne (Ne.symm n76)]; exact s6
        generalize del (del H_8 b7) b9 = HD at *
        simp only [push_cast, simprocAttr, f6, hzO, hlO, hZ39, j_8d.k2, cpu_regs, cpu_44]
        exact fin HD b6 j_8d x6 y6 z6
    · skip
      refine fun b6 h6 => ?_
      obtain ⟨j_9, x6, y6, z6⟩ := j_6.al h6 ⟨Z39, 0⟩
      obtain ⟨s9, n96⟩ := up_at (W := ⟨Z39, 0⟩) h6 s9
      have s6 := upd_same H_6 b6 ⟨Z39, 0⟩
      generalize upd H_6 b6 ⟨Z39, 0⟩ = H_9 at *
      refine ⟨⟨by rw [j_9.k2]; exact cpu_regs c, by rw [j_9.k2]; exact q44⟩, ?_⟩
      refine ⟨by omega, by omega, by omega, fun b7 h7 => ?_⟩
      obtain ⟨j_10, x7, y7, z7⟩ := j_9.al h7 ⟨List.replicate p (.bool false), 0⟩
      obtain ⟨s9, n97⟩ := up_at (W := ⟨List.replicate p (.bool false), 0⟩) h7 s9
      obtain ⟨s6, n67⟩ := up_at (W := ⟨List.replicate p (.bool false), 0⟩) h7 s6
      have s7 := upd_same H_9 b7 ⟨List.replicate p (.bool false), 0⟩
      generalize upd H_9 b7 ⟨List.replicate p (.bool false), 0⟩ = H_10 at *
      refine ⟨⟨by rw [j_10.k2]; exact cpu_regs c, by rw [j_10.k2]; exact q44⟩, ?_⟩
      refine (rDo_own (G := G) hp hM hc hlen hx s7 s9 (Ne.symm n97)).to ?_
      have j_10d := (j_10.dl x7 y7 z7).dl x9 y9 z9
      have f6 : del (del H_10 b7) b9 b6 = some ⟨Z39, 0⟩ := by rw [del_ne (Ne.symm n96), del_ne n67]; exact s6
      generalize del (del H_10 b7) b9 = HD at *
      simp only [push_cast, simprocAttr, f6, hzO, hlO, hZ39, j_10d.k2, cpu_regs, cpu_44]
      exact fin HD b6 j_10d x6 y6 z6
  · skip
    refine fun b6 h6 => ?_
    obtain ⟨j_11, x6, y6, z6⟩ := j0.al h6 ⟨Z39, 0⟩
    have s6 := upd_same H b6 ⟨Z39, 0⟩
    generalize upd H b6 ⟨Z39, 0⟩ = H_11 at *
    refine ⟨⟨by rw [j_11.k2]; exact cpu_regs c, by rw [j_11.k2]; exact q44⟩, ?_⟩
    refine ⟨?_, ?_⟩
    · skip
      refine ⟨by omega, by omega, by omega, fun b7 h7 => ?_⟩
      obtain ⟨j_12, x7, y7, z7⟩ := j_11.al h7 ⟨List.replicate p (.bool false), 0⟩
      obtain ⟨s6, n67⟩ := up_at (W := ⟨List.replicate p (.bool false), 0⟩) h7 s6
      have s7 := upd_same H_11 b7 ⟨List.replicate p (.bool false), 0⟩
      generalize upd H_11 b7 ⟨List.replicate p (.bool false), 0⟩ = H_12 at *
      refine ⟨⟨by rw [j_12.k2]; exact cpu_regs c, by rw [j_12.k2]; exact q44⟩, ?_⟩
      refine ⟨by omega, by omega, by omega, fun b9 h9 => ?_⟩
      obtain ⟨j_13, x9, y9, z9⟩ := j_12.al h9 ⟨List.replicate p (.int .u64 0), 0⟩
      obtain ⟨s6, n69⟩ := up_at (W := ⟨List.replicate p (.int .u64 0), 0⟩) h9 s6
      obtain ⟨s7, n79⟩ := up_at (W := ⟨List.replicate p (.int .u64 0), 0⟩) h9 s7
      have s9 := upd_same H_12 b9 ⟨List.replicate p (.int .u64 0), 0⟩
      generalize upd H_12 b9 ⟨List.replicate p (.int .u64 0), 0⟩ = H_13 at *
      refine ⟨⟨by rw [j_13.k2]; exact cpu_regs c, by rw [j_13.k2]; exact q44⟩, ?_⟩
      refine (rDo_own (G := G) hp hM hc hlen hx s7 s9 n79).to ?_
      have j_13d := (j_13.dl x7 y7 z7).dl x9 y9 z9
      have f6 : del (del H_13 b7) b9 b6 = some ⟨Z39, 0⟩ := by rw [del_ne n69, del_ne n67]; exact s6
      generalize del (del H_13 b7) b9 = HD at *
      simp only [push_cast, simprocAttr, f6, hzO, hlO, hZ39, j_13d.k2, cpu_regs, cpu_44]
      exact fin HD b6 j_13d x6 y6 z6
    · skip
      refine ⟨by omega, by omega, by omega, fun b9 h9 => ?_⟩
      obtain ⟨j_14, x9, y9, z9⟩ := j_11.al h9 ⟨List.replicate p (.int .u64 0), 0⟩
      obtain ⟨s6, n69⟩ := up_at (W := ⟨List.replicate p (.int .u64 0), 0⟩) h9 s6
      have s9 := upd_same H_11 b9 ⟨List.replicate p (.int .u64 0), 0⟩
      generalize upd H_11 b9 ⟨List.replicate p (.int .u64 0), 0⟩ = H_14 at *
      refine ⟨⟨by rw [j_14.k2]; exact cpu_regs c, by rw [j_14.k2]; exact q44⟩, ?_⟩
      refine ⟨by omega, by omega, by omega, fun b7 h7 => ?_⟩
      obtain ⟨j_15, x7, y7, z7⟩ := j_14.al h7 ⟨List.replicate p (.bool false), 0⟩
      obtain ⟨s6, n67⟩ := up_at (W := ⟨List.replicate p (.bool false), 0⟩) h7 s6
      obtain ⟨s9, n97⟩ := up_at (W := ⟨List.replicate p (.bool false), 0⟩) h7 s9
      have s7 := upd_same H_14 b7 ⟨List.replicate p (.bool false), 0⟩
      generalize upd H_14 b7 ⟨List.replicate p (.bool false), 0⟩ = H_15 at *
      refine ⟨⟨by rw [j_15.k2]; exact cpu_regs c, by rw [j_15.k2]; exact q44⟩, ?_⟩
      refine (rDo_own (G := G) hp hM hc hlen hx s7 s9 (Ne.symm n97)).to ?_
      have j_15d := (j_15.dl x7 y7 z7).dl x9 y9 z9
      have f6 : del (del H_15 b7) b9 b6 = some ⟨Z39, 0⟩ := by rw [del_ne n69, del_ne n67]; exact s6
      generalize del (del H_15 b7) b9 = HD at *
      simp only [push_cast, simprocAttr, f6, hzO, hlO, hZ39, j_15d.k2, cpu_regs, cpu_44]
      exact fin HD b6 j_15d x6 y6 z6
end Go.Ab
end
section
/- The law ApplyDoes. -/
set_option linter.unusedSimpArgs false
set_option linter.unusedVariables false
set_option maxRecDepth 10000
namespace Go.Ab
open Go.Proofs
variable {G : Glo} {h : Heap}
theorem lay_ramZ (n : Nat) (parts : List IPart) (hn : rightN n = true) (hok : ∀ p ∈ parts, partOk n p = true) : (IRam.new n).layP parts = ramZ (layN (List.replicate n 0#8) parts) ∧ (layN (List.replicate n 0#8) parts).length = n := by
  have hl := lay_len parts (List.replicate n 0#8) (by rw [List.length_replicate]; exact hok)
  rw [List.length_replicate] at hl
  refine ⟨?_, hl⟩
  rw [ramZ, hl]
  rfl
theorem splice_all {Z C : List AV} (h2 : 2 ≤ C.length) (h : Z.length = C.length) : splice Z 0 C = C := by
  rw [splice_len h2, Nat.zero_add, List.drop_of_length_le (by omega)]; simp
theorem Same25_spec (c : ICpu) (he : c.ev = []) (hb : c.bus.b.length ≤ 140737488355328) (hx : c.bus.c.rx.length ≤ 140737488355328) (ho : c.bus.c.out.length ≤ 140737488355328) :
    Spec Tryz.prog G 15 [.agg c.bare.cells, .agg c.cells] h (Is (.bool true) h) := Same18_spec (G := G) c [] c.bus.c.l he hb hx ho
theorem lawDoes25_spec (s : ISt) (b : IBk) (fuel : Int) (he : b.exits.length ≤ 9223372036854775807) (hp : ∀ p ∈ s.parts, p.b.length ≤ 9223372036854775807) : Spec Tryz.prog G 3 [.agg s.cells, .agg b.cells, .int .i64 fuel] h (Is (.bool true) h) := by
  have hL := fun h : Heap => light25_spec (G := G) (h := h) s b he hp
  have hA := fun h : Heap => awake25_spec (G := G) (h := h)
  have ball : partOf b.cells 0 (some 4) = some (.agg b.cells) := partOf_all rfl
  refine Spec.drop ?_
  refine Spec.walk C3ok rfl ?_
  simp only [push_cast, simprocAttr]
  refine (hL h).to ?_
  rcases hl : light25 s b with _ | _
  · simp only [push_cast, simprocAttr]
    refine (hA h).to ?_
    simp only [push_cast, simprocAttr]
    exact ⟨h, .refl h, rfl⟩
  · obtain ⟨hw, hx, hpl, hr0, ht, hof⟩ := light25_facts hl
    obtain ⟨n, hn, hg⟩ := ISt.goes hr0 (by omega)
    simp only [push_cast, simprocAttr]
    refine (lBegin_spec (G := G) s n hn hg).mono ?_
    rintro _ H4 ⟨l, rfl, ⟨lo, le⟩, hm, hf, ho⟩
    simp only [push_cast, simprocAttr]
    refine (rBegin_spec (G := G) s n hn hg.hn hg.hl hg.hok).to ?_
    have hct : (beginC s n).tick = s.tick := rfl
    have hcl : (beginC s n).bus.c.l = s.input := rfl
    have hco : (beginC s n).bus.t.off = s.t.off := rfl
    have hcb : (beginC s n).bus.b = layN (List.replicate n 0#8) s.parts := rfl
    obtain ⟨hMz, hbl⟩ := lay_ramZ n s.parts hg.hn hg.hok
    rw [← hcb] at hMz hbl
    rw [hMz] at hm
    have hrise : ∀ i, i < (beginC s n).bus.c.l.length → riseN (beginC s n).bus.c.l i = true := by
      rw [hcl]
      have hi := hg.hi
      rw [rightA] at hi
      intro i hi2
      split at hi
      · cases hi
      · split at hi
        · rename_i h1
          exact allN_get h1 i hi2
        · cases hi
    rw [← hct] at ht
    rw [← hco] at hof
    clear hct hcl hco hcb hMz
    generalize beginC s n = c at *
    have hzc : ∀ (c : ICpu), splice Z56 0 c.cells = c.cells := fun c => splice_all (by rw [cpu_len]; omega) (by rw [cpu_len]; rfl)
    rw [Z56] at hzc
    simp only [push_cast, simprocAttr, hzc]
    intro b8 hb8
    rw [era_none hb8]
    have ec : c.ev = [] := by
      obtain ⟨v, _, hr⟩ := hm.hc
      rw [le] at hr
      exact List.eq_nil_of_length_eq_zero hr.2.2
    have eo : c.bus.c.out = [] := by
      obtain ⟨v, _, hr⟩ := hm.hn
      rw [lo] at hr
      exact List.eq_nil_of_length_eq_zero hr.2.2
    have hrx := hm.hf.len
    have hbw := hm.hr.wf.2.1
    rw [hm.hm] at hbw
    have hMw : (ramZ c.bus.b).wf := hm.hr.wf
    have hS := fun (c : ICpu) (he : c.ev = []) (hb : c.bus.b.length ≤ 65536) (hx : c.bus.c.rx.length ≤ 16) (ho : c.bus.c.out = []) (h : Heap) => Same25_spec (G := G) (h := h) c he (by omega) (by omega) (by rw [ho]; simp)
    have hxx : ∀ e ∈ b.exits, e.map.length ≤ 1000 := fun e he => by have := hx e he; omega
    have hsub : Sub h H4 := fun d x hd => by
      rw [ho d (fun e => by rw [hf d e] at hd; cases hd)]; exact hd
    refine (Own_spec (G := G) b hw).to ?_
    simp only [push_cast, simprocAttr]
    refine (mayA_spec (G := G) hm hw fuel).to ?_
    have hSt := fun (H : Heap) (c : ICpu) (M : IRam) (hm : MachAt H l c M) => State_spec (G := G) hm lo le
    have hOf := fun (H : Heap) (c : ICpu) => Of_spec (G := G) (h := H) c
    have hCk := fun (H : Heap) => rCheck_spec (G := G) (h := H) b hw
    have hMy := fun (H : Heap) (hc : b.check = 0) => rMay_spec (G := G) (h := H) c b fuel hc hm.came hm.hl
    have hDo := fun (H : Heap) (hc : b.check = 0) => rDo25_spec (G := G) (h := H) c b hMw hc hxx
    have hmy := fun hc : b.check = 0 => may_eq c b fuel hc hrise ht hof
    have hz0 : splice [.int .u32 0, .int .u32 0, .int .u32 0, .int .u32 0, .int .u32 0, .int .u32 0, .int .u32 0, .int .u32 0, .int .u32 0, .int .u32 0, .int .u32 0, .int .u32 0, .int .u32 0, .int .u32 0, .int .u32 0, .int .u32 0, .int .u32 0, .int .u32 0, .int .u32 0, .int .u32 0, .int .u32 0, .int .u32 0, .int .u32 0, .int .u32 0, .int .u32 0, .int .u32 0, .int .u32 0, .int .u32 0, .int .u32 0, .int .u32 0, .int .u32 0, .int .u32 0, .int .u32 0, .int .i64 0, .int .i64 0, .int .i64 0] 0 out0 = out0 := rfl
    have hfl : ∀ ρ, fls .u ρ = ρ := fun _ => rfl
    by_cases hn : askN c b fuel = 0
    · have hc : b.check = 0 := by
        rw [askN] at hn
        by_cases h0 : b.check = 0
        · exact h0
        · rw [if_pos h0] at hn; exact absurd hn h0
      have hmay : rMayN c b fuel = true := by
        rw [askN, hc, if_neg (by simp)] at hn
        rw [← hmy hc]
        cases hh : mayN c b fuel with
        | true => rfl
        | false => rw [hh] at hn; cases hn
      refine (doA_yes (G := G) hm hw fuel hxx hn hc).mono ?_
      rintro _ H5 ⟨rfl, hm5, ho5⟩
      have hS' := hS (doC c b (ramZ c.bus.b)) ec (by have := hm5.hr.wf.2.1; rw [hm5.hm] at this; exact this) hm5.hf.len eo
      have hlen : c.regs.toList.length = 32 := by simp
      obtain ⟨R, hR, Pc, dn, wh, xn, hO, hpc⟩ : ∃ R : List (BitVec 32), R.length = 32 ∧ ∃ (Pc : BitVec 32) (dn wh xn : Int), b.outOf c.regs.toList (ramZ c.bus.b) = outC R Pc dn wh xn ∧ (doC c b (ramZ c.bus.b)).pc = Pc :=
        ⟨_, by rw [leaveR, foldR_len]; simp, _, _, _, _, rfl, rfl⟩
      rw [hO]
      have hbq : (askN c b fuel == 0) = true := by simp [hn]
      rw [hbq]
      have hdo := hDo
      generalize doC c b (ramZ c.bus.b) = c2 at *
      have ol := oc_len (pc := Pc) (done := dn) (why := wh) (exit := xn) hR
      have o32 := (oc_at (pc := Pc) (done := dn) (why := wh) (exit := xn) hR).1
      simp only [push_cast, simprocAttr, oc_put36 hR]
      intro b11 hb11
      rw [era_none hb11]
      simp only [push_cast, simprocAttr, ol, hfl]
      refine (hSt _ c2 _ hm5).to ?_
      simp only [push_cast, simprocAttr]
      refine (hOf _ c2).to ?_
      have hzb : splice Z56 0 c2.bare.cells = c2.bare.cells := splice_all (by rw [cpu_len]; omega) (by rw [cpu_len]; rfl)
      rw [Z56] at hzb
      simp only [push_cast, simprocAttr, hzb, hfl]
      intro b13 hb13
      rw [era_none hb13]
      refine (hCk _).to ?_
      simp only [push_cast, simprocAttr, hc, hfl]
      refine (hMy _ hc).to ?_
      rw [hmay]
      simp only [push_cast, simprocAttr]
      refine (hDo _ hc).to ?_
      simp only [push_cast, simprocAttr]
      refine (hS' _).to ?_
      have hp0 : c2.bare.cells[0]? = some (.int .u32 (Pc.toNat : Int)) := by rw [cpu_0, ← hpc]; rfl
      simp only [push_cast, simprocAttr, o32, hp0]
      refine (hA _).to ?_
      simp only [push_cast, simprocAttr]
      refine ⟨h, fun d x hd => ?_, rfl⟩
      have hnl : ¬ l.has d := fun e => by rw [hf d e] at hd; cases hd
      rw [ho5 d hnl]
      exact hsub _ _ hd
    · refine (doA_no (G := G) hm hw fuel hn).to ?_
      have hbq : (askN c b fuel == 0) = false := by simp [hn]
      rw [hbq]
      have hakc : b.check ≠ 0 → askN c b fuel = b.check := fun h0 => by rw [askN, if_pos h0]
      have hmay0 : b.check = 0 → rMayN c b fuel = false := fun h0 => by
        rw [← hmy h0]
        cases hh : mayN c b fuel with
        | false => rfl
        | true => exact absurd (by rw [askN, h0, if_neg (by simp), hh]; rfl) hn
      have hak4 : b.check = 0 → askN c b fuel = 4 := fun h0 => by
        have := hmay0 h0
        rw [← hmy h0] at this
        rw [askN, h0, if_neg (by simp), this]; rfl
      have hpo : partOf out0 0 (some 36) = some (.agg out0) := partOf_all rfl
      have hq0 : aeq false [.i, .i, .i, .i, .i, .i, .i, .i, .i, .i, .i, .i, .i, .i, .i, .i, .i, .i, .i, .i, .i, .i, .i, .i, .i, .i, .i, .i, .i, .i, .i, .i, .i, .i, .i, .i] (.agg out0) (.agg [.int .u32 0, .int .u32 0, .int .u32 0, .int .u32 0, .int .u32 0, .int .u32 0, .int .u32 0, .int .u32 0, .int .u32 0, .int .u32 0, .int .u32 0, .int .u32 0, .int .u32 0, .int .u32 0, .int .u32 0, .int .u32 0, .int .u32 0, .int .u32 0, .int .u32 0, .int .u32 0, .int .u32 0, .int .u32 0, .int .u32 0, .int .u32 0, .int .u32 0, .int .u32 0, .int .u32 0, .int .u32 0, .int .u32 0, .int .u32 0, .int .u32 0, .int .u32 0, .int .u32 0, .int .i64 0, .int .i64 0, .int .i64 0]) = some (.bool true) := rfl
      generalize askN c b fuel = ak at *
      simp only [push_cast, simprocAttr, hz0]
      intro b11 hb11
      rw [era_none hb11]
      have hl0 : out0.length = 36 := rfl
      simp only [push_cast, simprocAttr, hl0, hfl]
      refine (hSt _ c _ hm).to ?_
      simp only [push_cast, simprocAttr]
      refine (hOf _ c).to ?_
      simp only [push_cast, simprocAttr, hzc, hfl]
      intro b13 hb13
      rw [era_none hb13]
      refine (hCk _).to ?_
      have hS' := hS c ec hbw hrx eo H4
      by_cases hc : b.check = 0
      · have hak : (ak : Int) = 4 := hak4 hc
        have hmay := hmay0 hc
        simp only [push_cast, simprocAttr, hc, hfl]
        refine (hMy _ hc).to ?_
        rw [hmay, hak]
        simp only [push_cast, simprocAttr, hq0, hpo]
        refine hS'.to ?_
        simp only [push_cast, simprocAttr]
        refine (hA _).to ?_
        simp only [push_cast, simprocAttr]
        exact ⟨h, hsub, rfl⟩
      · have hak : ak = b.check := hakc hc
        have hck : (b.check != 0) = true := by simp [hc]
        rw [hak]
        simp only [push_cast, simprocAttr, hc, hck, hq0, hfl, hpo]
        refine hS'.to ?_
        simp only [push_cast, simprocAttr]
        refine (hA _).to ?_
        simp only [push_cast, simprocAttr]
        exact ⟨h, hsub, rfl⟩
end Go.Ab
end
section
/- A frame for walks over what values stand for, part Ab11. -/
namespace Go.Ab
open Go.ChangeShapes Go.WideShapes Go.ChangeAt Go.RowKit
/-! From what a row reads to what is known. -/
inductive TD where
  | b
  | i (k : IntKind)
  | s
  | sl (e : TD)
  | st (fs : List TD)
  | ar (n : Nat) (e : TD)
  deriving Inhabited
def tdFields (P : Program) (rec : TypeId → Option TD) : Nat → List Field → Option (List TD)
  | _, [] => some []
  | n, f :: r => match rec f.type with
    | some td => if f.offset = n then (tdFields P rec (n + P.cellsOf f.type) r).map (td :: ·) else none
    | none => none
def tdOf (P : Program) : Nat → TypeId → Option TD
  | 0, _ => none
  | d + 1, t => match P.underlying t with
    | some .bool => some .b
    | some (.int k) => some (.i k)
    | some .string => some .s
    | some (.slice e) => if 0 < P.cellsOf e then (tdOf P d e).map .sl else none
    | some (.struct fs) => match tdFields P (tdOf P d) 0 fs.toList with
      | some l => if (fs.toList.map fun f => P.cellsOf f.type).sum = P.cellsOf t then some (.st l) else none
      | none => none
    | some (.array n e) => if n * P.cellsOf e = P.cellsOf t then (tdOf P d e).map (.ar n) else none
    | _ => none
inductive Dat : TD → List AV → Prop
  | b (x : Bool) : Dat .b [.bool x]
  | i (k : IntKind) (n : Int) (h : k.min ≤ n ∧ n ≤ k.max) : Dat (.i k) [.int k n]
  | s (x : ByteArray) (h : x.size ≤ maxLen) : Dat .s [.str x]
  | sl (e : TD) (ls : List (List AV)) (hl : ls.length ≤ maxLen) (h : ∀ l ∈ ls, Dat e l) : Dat (.sl e) [.ro ls.flatten ls.length]
  | st (fs : List TD) (ls : List (List AV)) (hl : ls.length = fs.length) (h : ∀ (j : Nat) f l, fs[j]? = some f → ls[j]? = some l → Dat f l) : Dat (.st fs) ls.flatten
  | ar (n : Nat) (e : TD) (ls : List (List AV)) (hl : ls.length = n) (h : ∀ l ∈ ls, Dat e l) : Dat (.ar n e) ls.flatten
def NoO : Nat → Prop := fun _ => False
section
variable {P : Program} {w : World} {H : Type} {enc : TypeId × Value → H} {base : Nat} {spare : Nat → Bool} {held : Bool}
theorem mapM_some {α β : Type} {f : α → Option β} {l : List α} {m : List β} (h : l.mapM f = some m) : l.length = m.length ∧ ∀ (i : Nat) x, l[i]? = some x → ∃ y, m[i]? = some y ∧ f x = some y := mapM_get h
theorem RepL.flatten {O : Nat → Prop} : ∀ (asz : List (List AV)) (vs : List (List Value)), asz.length = vs.length → (∀ (i : Nat) a v, asz[i]? = some a → vs[i]? = some v → RepL w O a v) → RepL w O asz.flatten vs.flatten := by
  intro asz
  induction asz with
  | nil => intro vs hl _; cases vs with
    | nil => exact .nil
    | cons _ _ => simp at hl
  | cons a r ih =>
    intro vs hl h
    cases vs with
    | nil => simp at hl
    | cons v s =>
      simp only [List.flatten_cons]
      exact (h 0 a v rfl rfl).append (ih s (by simpa using hl) fun i a v h1 h2 => h (i + 1) a v (by simpa using h1) (by simpa using h2))
/-- The first cells, the next ones, and so on: all of them. -/
theorem split_cells (n z : Nat) (cs : List Value) (h : cs.length = n * z) : ((List.range n).map fun i => (cs.drop (i * z)).take z).flatten = cs := by
  induction n generalizing cs with
  | zero => simp at h; subst h; simp
  | succ n ih =>
    rw [List.range_succ_eq_map, List.map_cons, List.map_map, List.flatten_cons]
    have hd : (cs.drop z).length = n * z := by simp [h, Nat.succ_mul]
    have := ih (cs.drop z) hd
    have hf : ((fun i => (cs.drop (i * z)).take z) ∘ Nat.succ) = fun i => ((cs.drop z).drop (i * z)).take z := by
      funext i
      simp [List.drop_drop, Nat.succ_mul, Nat.add_comm]
    rw [hf, this]
    simp
theorem split_fields : ∀ (fs : List Field) (n : Nat) (cs : List Value), (∀ (j : Nat) f, fs[j]? = some f → f.offset = n + ((fs.take j).map fun f => P.cellsOf f.type).sum) → cs.length = n + (fs.map fun f => P.cellsOf f.type).sum →
    (fs.map fun f => (cs.drop f.offset).take (P.cellsOf f.type)).flatten = cs.drop n := by
  intro fs
  induction fs with
  | nil => intro n cs _ hl; simp at hl; simp [← hl]
  | cons f r ih =>
    intro n cs ho hl
    have h0 := ho 0 f rfl
    simp at h0
    simp only [List.map_cons, List.sum_cons] at hl
    have := ih (n + P.cellsOf f.type) cs (fun j g hg => by
      have := ho (j + 1) g (by simpa using hg)
      simp only [List.take_succ_cons, List.map_cons, List.sum_cons] at this
      omega) (by omega)
    rw [List.map_cons, List.flatten_cons, this, h0, ← List.drop_drop, List.take_append_drop]
theorem tdFields_get {rec : TypeId → Option TD} : ∀ (fs : List Field) (n : Nat) (l : List TD), tdFields P rec n fs = some l →
    l.length = fs.length ∧ (∀ (j : Nat) f, fs[j]? = some f → f.offset = n + ((fs.take j).map fun f => P.cellsOf f.type).sum ∧ ∃ td, l[j]? = some td ∧ rec f.type = some td) := by
  intro fs
  induction fs with
  | nil => intro n l h; simp [tdFields] at h; subst h; exact ⟨rfl, fun j f h => by simp at h⟩
  | cons f r ih =>
    intro n l h
    simp only [tdFields] at h
    split at h
    · rename_i td htd
      split at h
      · rename_i ho
        obtain ⟨m, hm, rfl⟩ := Option.map_eq_some_iff.1 h
        obtain ⟨i1, i2⟩ := ih _ _ hm
        refine ⟨by simp [i1], fun j g hg => ?_⟩
        cases j with
        | zero => simp at hg; subst hg; exact ⟨by simp [ho], td, rfl, htd⟩
        | succ j =>
          obtain ⟨k1, k2⟩ := i2 j g (by simpa using hg)
          refine ⟨by rw [k1]; simp; omega, ?_⟩
          simpa using k2
      · cases h
    · cases h
theorem cells_at {a : Addr} {n : Nat} {cs : List Value} (h : w.cells? base a n = some cs) : cs.length = n ∧ ∀ i v, cs[i]? = some v → w.cell? (a.add i) = some v := by
  unfold World.cells? at h
  split at h
  · obtain ⟨h1, h2⟩ := mapM_some h
    simp at h1
    refine ⟨h1.symm, fun i v hv => ?_⟩
    have hlt : i < n := by rw [h1]; exact (List.getElem?_eq_some_iff.1 hv).1
    obtain ⟨y, hy, hy'⟩ := h2 i i (by simp [hlt])
    rw [hy] at hv
    cases hv
    exact hy'
  · cases h
theorem dat_of : ∀ (fuel : Nat) (t : TypeId) (cs : List Value) (x : DataW H × List MemPlace), DataW.trod enc P w base spare held fuel t cs = some x → ∀ (d : Nat) (td : TD), tdOf P d t = some td →
    ∃ avs, Dat td avs ∧ RepL w NoO avs cs ∧ (∀ c ∈ cs, c.oneCell' = true) := by
  intro fuel
  induction fuel with
  | zero => intro t cs x h; simp [DataW.trod] at h
  | succ fuel ih =>
    intro t cs x h d td htd
    cases d with
    | zero => simp [tdOf] at htd
    | succ d =>
      cases hu : P.underlying t with
      | none => simp [tdOf, hu] at htd
      | some u =>
        cases u <;> simp only [tdOf, hu] at htd <;> (try (simp at htd; done))
        case bool =>
          cases htd
          simp only [DataW.trod, hu] at h
          split at h <;> (try (cases h; done)) <;> rename_i h1 <;> (try (cases h1; done))
          exact ⟨_, .b _, RepL.nil.cons (.bool _), by simp [Value.oneCell']⟩
        case int k =>
          cases htd
          simp only [DataW.trod, hu] at h
          split at h <;> (try (cases h; done)) <;> rename_i h1 <;> (try (cases h1; done))
          cases h1
          split at h
          · rename_i hk
            obtain ⟨rfl, hk2⟩ := hk
            simp [Lit.wf] at hk2
            exact ⟨_, .i _ _ hk2, RepL.nil.cons (.int _ _), by simp [Value.oneCell']⟩
          · cases h
        case string =>
          cases htd
          simp only [DataW.trod, hu] at h
          split at h <;> (try (cases h; done)) <;> rename_i h1 <;> (try (cases h1; done))
          split at h
          · rename_i hl
            exact ⟨_, .s _ hl, RepL.nil.cons (.str _), by simp [Value.oneCell']⟩
          · cases h
        case slice e =>
          split at htd
          · rename_i hz
            obtain ⟨te, hte, rfl⟩ := Option.map_eq_some_iff.1 htd
            simp only [DataW.trod, hu] at h
            split at h <;> (try (cases h; done)) <;> rename_i h1 <;> (try (cases h1; done))
            · exact ⟨_, .sl te [] (by simp) (by simp), RepL.nil.cons (.roe none 0), by simp [Value.oneCell']⟩
            · rename_i a len cap
              cases h1
              split at h
              · rename_i hc
                simp only [Option.bind_eq_some_iff] at h
                obtain ⟨elems, hel, hx2⟩ := h
                obtain ⟨e1, e2⟩ := mapM_some hel
                simp at e1
                -- the elements, one by one
                have key : ∀ i, i < len → ∃ (cs : List Value) (avs : List AV), w.cells? base (a.add (i * P.cellsOf e)) (P.cellsOf e) = some cs ∧ Dat te avs ∧ RepL w NoO avs cs ∧ (∀ c ∈ cs, c.oneCell' = true) := by
                  intro i hi
                  obtain ⟨y, _, hy⟩ := e2 i i (by simp [hi])
                  simp only [Option.bind_eq_some_iff] at hy
                  obtain ⟨cs, h1, h2⟩ := hy
                  obtain ⟨avs, h3, h4, h5⟩ := ih e cs y h2 d te hte
                  exact ⟨cs, avs, h1, h3, h4, h5⟩
                have kall : ∃ ls : List (List AV), ls.length = len ∧ ∀ (i : Nat) l, ls[i]? = some l → ∃ cs, w.cells? base (a.add (i * P.cellsOf e)) (P.cellsOf e) = some cs ∧ Dat te l ∧ RepL w NoO l cs ∧ (∀ c ∈ cs, c.oneCell' = true) := by
                  clear e1 e2 hel hc hx2
                  induction len with
                  | zero => exact ⟨[], rfl, fun i l h => by simp at h⟩
                  | succ n ihn =>
                    obtain ⟨ls, l1, l2⟩ := ihn fun i hi => key i (by omega)
                    obtain ⟨cs, avs, k1, k2, k3, k4⟩ := key n (by omega)
                    refine ⟨ls ++ [avs], by simp [l1], fun i l hl => ?_⟩
                    by_cases hi : i < ls.length
                    · rw [List.getElem?_append_left hi] at hl
                      exact l2 i l hl
                    · rw [List.getElem?_append_right (by omega)] at hl
                      have : i = n := by
                        have := (List.getElem?_eq_some_iff.1 hl).1
                        simp at this; omega
                      subst this
                      rw [l1] at hl
                      simp at hl
                      subst hl
                      exact ⟨cs, k1, k2, k3, k4⟩
                obtain ⟨ls, l1, l2⟩ := kall
                have hdat : Dat (.sl te) [.ro ls.flatten ls.length] := .sl te ls (by omega) fun l hl => by
                  obtain ⟨i, hi⟩ := List.mem_iff_getElem?.1 hl
                  obtain ⟨cs, _, k2, _⟩ := l2 i l hi
                  exact k2
                refine ⟨_, hdat, RepL.nil.cons ?_, by simp [Value.oneCell']⟩
                rw [l1]
                by_cases h0 : len = 0
                · subst h0
                  rw [List.eq_nil_of_length_eq_zero l1]
                  exact .roe _ _
                · -- the row
                  have hspot : a.spot = none := by
                    obtain ⟨cs, avs, k1, k2, k3, k4⟩ := key 0 (by omega)
                    obtain ⟨q1, q2⟩ := cells_at k1
                    have hc0 := q2 0 _ (List.getElem?_eq_getElem (by omega))
                    simp only [Nat.zero_mul] at hc0
                    have : (a.add 0).add 0 = a := by simp [Addr.add]
                    rw [this] at hc0
                    exact World.cell?_spot hc0
                  obtain ⟨b, o, sp⟩ := a
                  simp only at hspot
                  subst hspot
                  have hlens : ∀ (i : Nat) l, ls[i]? = some l → l.length = P.cellsOf e := by
                    intro i l hl
                    obtain ⟨cs, k1, _, k3, _⟩ := l2 i l hl
                    rw [k3.1]; exact (cells_at k1).1
                  have hcell : ∀ (j : Nat) v, ls.flatten[j]? = some v → ∃ c, w.cell? ⟨b, o + j, none⟩ = some c ∧ c.oneCell' = true ∧ Rep w NoO v c := by
                    have gen : ∀ (m : Nat) (ms : List (List AV)), (∀ (i : Nat) l, ms[i]? = some l → ls[m + i]? = some l) → ∀ (j : Nat) v, ms.flatten[j]? = some v → ∃ c, w.cell? ⟨b, o + (m * P.cellsOf e + j), none⟩ = some c ∧ c.oneCell' = true ∧ Rep w NoO v c := by
                      intro m ms
                      induction ms generalizing m with
                      | nil => intro _ j v hv; simp at hv
                      | cons l r ihr =>
                        intro hm j v hv
                        have hl := hm 0 l rfl
                        simp only [Nat.add_zero] at hl
                        obtain ⟨cs, k1, k2, k3, k4⟩ := l2 m l hl
                        obtain ⟨q1, q2⟩ := cells_at k1
                        have hll := hlens m l hl
                        rw [List.flatten_cons] at hv
                        by_cases hj : j < l.length
                        · rw [List.getElem?_append_left hj] at hv
                          have hcs : cs[j]? = some (cs[j]'(by omega)) := List.getElem?_eq_getElem _
                          have := q2 j _ hcs
                          rw [Addr.add_lit, Addr.add_lit] at this
                          exact ⟨_, by rw [← Nat.add_assoc]; exact this, k4 _ (List.getElem_mem _), k3.2 j v _ hv hcs⟩
                        · rw [List.getElem?_append_right (by omega)] at hv
                          obtain ⟨c, z1, z2, z3⟩ := ihr (m + 1) (fun i l hl => by
                            have := hm (i + 1) l (by simpa using hl)
                            rwa [show m + 1 + i = m + (i + 1) by omega]) (j - l.length) v hv
                          refine ⟨c, ?_, z2, z3⟩
                          rw [show m * P.cellsOf e + j = (m + 1) * P.cellsOf e + (j - l.length) by rw [Nat.succ_mul]; omega]
                          exact z1
                    intro j v hv
                    have := gen 0 ls (fun i l hl => by rwa [Nat.zero_add]) j v hv
                    simpa using this
                  have hb : b < w.heap.size := by
                    obtain ⟨cs, avs, k1, k2, k3, k4⟩ := key 0 (by omega)
                    obtain ⟨q1, q2⟩ := cells_at k1
                    have hc0 := q2 0 _ (List.getElem?_eq_getElem (by omega))
                    simp only [Nat.zero_mul, Addr.add_lit] at hc0
                    unfold World.cell? at hc0
                    cases hbb : w.heap[b]? with
                    | none => simp [hbb] at hc0
                    | some y => exact (Array.getElem?_eq_some_iff.1 hbb).1
                  refine .ro _ _ _ b o (fun j => (w.cell? ⟨b, o + j, none⟩).getD undef) hc.2.1 hb (fun h => h) (fun j v hv => ?_) (fun j v hv => ?_)
                  · obtain ⟨c, z1, z2, _⟩ := hcell j v hv
                    rw [z1]; exact ⟨rfl, z2⟩
                  · obtain ⟨c, z1, _, z3⟩ := hcell j v hv
                    rw [z1]; exact z3
              · cases h
          · cases htd
        case struct fs =>
          split at htd
          · rename_i l hl
            split at htd
            · rename_i hsum
              cases htd
              simp only [DataW.trod, hu] at h
              split at h
              · rename_i hlen
                obtain ⟨xs, hxs, _⟩ := Option.map_eq_some_iff.1 h
                obtain ⟨e1, e2⟩ := mapM_some hxs
                obtain ⟨f1, f2⟩ := tdFields_get fs.toList 0 l hl
                have key : ∀ (j : Nat) f, fs.toList[j]? = some f → ∃ td avs, l[j]? = some td ∧ Dat td avs ∧ RepL w NoO avs ((cs.drop f.offset).take (P.cellsOf f.type)) ∧ (∀ c ∈ (cs.drop f.offset).take (P.cellsOf f.type), c.oneCell' = true) := by
                  intro j f hf
                  obtain ⟨y, _, hy⟩ := e2 j f hf
                  obtain ⟨_, td, k1, k2⟩ := f2 j f hf
                  obtain ⟨avs, h3, h4, h5⟩ := ih f.type _ y hy d td k2
                  exact ⟨td, avs, k1, h3, h4, h5⟩
                have kall : ∃ ls : List (List AV), ls.length = fs.toList.length ∧ ∀ (j : Nat) f a, fs.toList[j]? = some f → ls[j]? = some a → ∃ td, l[j]? = some td ∧ Dat td a ∧ RepL w NoO a ((cs.drop f.offset).take (P.cellsOf f.type)) := by
                  clear e1 e2 hxs h f1 f2 hl hlen hsum
                  generalize fs.toList = F at key
                  induction F generalizing l with
                  | nil => exact ⟨[], rfl, fun j f a h => by simp at h⟩
                  | cons g r ihF =>
                    obtain ⟨td, avs, k1, k2, k3, _⟩ := key 0 g rfl
                    cases l with
                    | nil => simp at k1
                    | cons l0 lr =>
                      obtain ⟨ls, m1, m2⟩ := ihF lr fun j f hf => by
                        obtain ⟨td, avs, z1, z2⟩ := key (j + 1) f (by simpa using hf)
                        exact ⟨td, avs, by simpa using z1, z2⟩
                      refine ⟨avs :: ls, by simp [m1], fun j f a hf ha => ?_⟩
                      cases j with
                      | zero => simp at hf ha; subst hf; subst ha; exact ⟨td, k1, k2, k3⟩
                      | succ j =>
                        obtain ⟨td, z1, z2⟩ := m2 j f a (by simpa using hf) (by simpa using ha)
                        exact ⟨td, by simpa using z1, z2⟩
                obtain ⟨ls, m1, m2⟩ := kall
                have hsplit := split_fields (P := P) fs.toList 0 cs (fun j f hf => (f2 j f hf).1) (by rw [hlen, hsum]; simp)
                simp only [List.drop_zero] at hsplit
                have hrep : RepL w NoO ls.flatten cs := by
                  rw [← hsplit]
                  refine RepL.flatten _ _ (by simp [m1]) fun j a v ha hv => ?_
                  simp only [List.getElem?_map, Option.map_eq_some_iff] at hv
                  obtain ⟨f, hf, rfl⟩ := hv
                  obtain ⟨td, _, _, z3⟩ := m2 j f a hf ha
                  exact z3
                refine ⟨ls.flatten, .st l ls (by rw [m1, f1]) fun j td a htd ha => ?_, hrep, ?_⟩
                · have hlt : j < fs.toList.length := by rw [← m1]; exact (List.getElem?_eq_some_iff.1 ha).1
                  obtain ⟨td', z1, z2, _⟩ := m2 j _ a (List.getElem?_eq_getElem hlt) ha
                  rw [htd] at z1
                  cases z1
                  exact z2
                · intro c hc
                  rw [← hsplit] at hc
                  obtain ⟨m, hm, hcm⟩ := List.mem_flatten.1 hc
                  obtain ⟨f, hf, rfl⟩ := List.mem_map.1 hm
                  obtain ⟨j, hj⟩ := List.mem_iff_getElem?.1 hf
                  obtain ⟨_, _, _, _, _, k5⟩ := key j f hj
                  exact k5 c hcm
              · cases h
            · cases htd
          · cases htd
        case array n e =>
          split at htd
          · rename_i hsz
            obtain ⟨te, hte, rfl⟩ := Option.map_eq_some_iff.1 htd
            simp only [DataW.trod, hu] at h
            split at h
            · rename_i hlen
              obtain ⟨xs, hxs, _⟩ := Option.map_eq_some_iff.1 h
              obtain ⟨e1, e2⟩ := mapM_some hxs
              have key : ∀ i, i < n → ∃ avs, Dat te avs ∧ RepL w NoO avs ((cs.drop (i * P.cellsOf e)).take (P.cellsOf e)) ∧ (∀ c ∈ (cs.drop (i * P.cellsOf e)).take (P.cellsOf e), c.oneCell' = true) := by
                intro i hi
                obtain ⟨y, _, hy⟩ := e2 i i (by simp [hi])
                exact ih e _ y hy d te hte
              have kall : ∃ ls : List (List AV), ls.length = n ∧ ∀ (i : Nat) a, ls[i]? = some a → Dat te a ∧ RepL w NoO a ((cs.drop (i * P.cellsOf e)).take (P.cellsOf e)) := by
                clear e1 e2 hxs h hsz hlen htd hu
                induction n with
                | zero => exact ⟨[], rfl, fun i a h => by simp at h⟩
                | succ n ihn =>
                  obtain ⟨ls, l1, l2⟩ := ihn fun i hi => key i (by omega)
                  obtain ⟨avs, k1, k2, _⟩ := key n (by omega)
                  refine ⟨ls ++ [avs], by simp [l1], fun i a ha => ?_⟩
                  by_cases hi : i < ls.length
                  · rw [List.getElem?_append_left hi] at ha
                    exact l2 i a ha
                  · rw [List.getElem?_append_right (by omega)] at ha
                    have : i = n := by
                      have := (List.getElem?_eq_some_iff.1 ha).1
                      simp at this; omega
                    subst this
                    rw [l1] at ha
                    simp at ha
                    subst ha
                    exact ⟨k1, k2⟩
              obtain ⟨ls, l1, l2⟩ := kall
              have hsplit := split_cells n (P.cellsOf e) cs (by rw [hlen, hsz])
              have hrep : RepL w NoO ls.flatten cs := by
                rw [← hsplit]
                refine RepL.flatten _ _ (by simp [l1]) fun j a v ha hv => ?_
                have hlt : j < n := by rw [← l1]; exact (List.getElem?_eq_some_iff.1 ha).1
                simp only [List.getElem?_map, Option.map_eq_some_iff] at hv
                obtain ⟨i, hi, rfl⟩ := hv
                rw [List.getElem?_range hlt] at hi
                cases hi
                exact (l2 j a ha).2
              refine ⟨ls.flatten, .ar n te ls l1 fun a ha => ?_, hrep, ?_⟩
              · obtain ⟨i, hi⟩ := List.mem_iff_getElem?.1 ha
                exact (l2 i a hi).1
              · intro c hc
                rw [← hsplit] at hc
                obtain ⟨m, hm, hcm⟩ := List.mem_flatten.1 hc
                obtain ⟨i, hi, rfl⟩ := List.mem_map.1 hm
                obtain ⟨_, _, _, k5⟩ := key i (by simpa using hi)
                exact k5 c hcm
            · cases h
          · cases htd
def argOf (td : TD) (avs : List AV) : AV :=
  match td with
  | .st _ | .ar _ _ => .agg avs
  | _ => avs.headD .any
theorem arg_of {r : Go.Reach} {b0 : Nat} {t : TypeId} {v : Value} {x : DataW H} {ps : List MemPlace} (hv : Value.okWide P w r b0 t v) (h : DataW.Trod enc P w base spare held t v x ps) {d : Nat} {td : TD} (htd : tdOf P d t = some td) :
    ∃ avs, Dat td avs ∧ Rep w NoO (argOf td avs) v := by
  obtain ⟨fuel, hf⟩ := h
  obtain ⟨avs, h1, h2, h3⟩ := dat_of fuel t _ _ hf d td htd
  refine ⟨avs, h1, ?_⟩
  have one : (∃ a, avs = [a]) → v.cells.toList = [v] → (match td with | .st _ | .ar _ _ => False | _ => True) → Rep w NoO (argOf td avs) v := by
    rintro ⟨a, rfl⟩ hc ht
    rw [hc] at h2
    have hr := h2.2 0 a v rfl rfl
    cases td <;> first | exact hr | exact ht.elim
  have agg : (∃ cs, v = .agg cs) → argOf td avs = .agg avs → Rep w NoO (argOf td avs) v := by
    rintro ⟨cs, rfl⟩ he
    rw [he]
    have := h2.agg h3
    simpa [Value.cells] using this
  cases d with
  | zero => simp [tdOf] at htd
  | succ d =>
    cases hu : P.underlying t with
    | none => simp [tdOf, hu] at htd
    | some u =>
      cases u <;> simp only [tdOf, hu] at htd <;> (try (simp at htd; done))
      case bool =>
        cases htd
        simp only [Value.okWide, hu, Cell.okWide] at hv
        cases h1
        refine one ⟨_, rfl⟩ ?_ trivial
        cases v <;> simp_all [Cell.ok, Value.cells]
      case int k =>
        cases htd
        obtain ⟨n, rfl⟩ := okWide_int hu hv
        cases h1
        exact one ⟨_, rfl⟩ rfl trivial
      case string =>
        cases htd
        obtain ⟨n, rfl⟩ := okWide_string hu hv
        cases h1
        exact one ⟨_, rfl⟩ rfl trivial
      case slice e =>
        split at htd
        · obtain ⟨te, _, rfl⟩ := Option.map_eq_some_iff.1 htd
          obtain ⟨a, len, cap, rfl⟩ := okWide_slice hu hv
          cases h1
          exact one ⟨_, rfl⟩ rfl trivial
        · cases htd
      case struct fs =>
        split at htd
        · split at htd
          · cases htd
            simp only [Value.okWide, hu] at hv
            obtain ⟨cs, hc, _⟩ := hv
            exact agg ⟨cs, hc⟩ rfl
          · cases htd
        · cases htd
      case array n e =>
        split at htd
        · obtain ⟨te, _, rfl⟩ := Option.map_eq_some_iff.1 htd
          simp only [Value.okWide, hu] at hv
          obtain ⟨cs, hc, _⟩ := hv
          exact agg ⟨cs, hc⟩ rfl
        · cases htd
def noG : Glo := .of fun _ => .any
/-- A law that is proved for whatever it is given: it is called, answers true, and leaves all asz it was. -/
theorem law_calls {f : FuncId} {args : List AV} {vs : List Value} (hs : Spec P noG f args noH (fun r _ => r = .bool true)) (hr : RepL w NoO args vs) :
    Calls P f vs.toArray w fun e w' => e = .returned (.bool true) ∧ Below w.heap.size w w' := by
  refine (hs w vs (fun b x h => by cases h) ⟨fun g => .any _, fun _ _ e => e.elim⟩ (by rw [noH_dom]; exact hr)).mono ?_
  rintro e w' ⟨v, r, h', rfl, rfl, _, h3, h4⟩
  refine ⟨by rw [rep_bool h3], ⟨h4.os, h4.tape, h4.out, h4.size, fun k hk => (h4.blk k hk rfl).2⟩⟩
end
end Go.Ab
end
section
/- What is known of data of a given type. -/
set_option linter.unusedVariables false
namespace Go.Ab
theorem dat_i {k : IntKind} {l : List AV} (h : Dat (.i k) l) : ∃ n, l = [.int k n] ∧ k.min ≤ n ∧ n ≤ k.max := by
  cases h with
  | i k n h => exact ⟨n, rfl, h⟩
theorem dat_b {l : List AV} (h : Dat .b l) : ∃ x, l = [.bool x] := by
  cases h with
  | b x => exact ⟨x, rfl⟩
theorem dat_s {l : List AV} (h : Dat .s l) : ∃ x, l = [.str x] ∧ x.size ≤ maxLen := by
  cases h with
  | s x h => exact ⟨x, rfl, h⟩
theorem dat_list {α : Type} {e : TD} (f : α → List AV) (ok : α → Prop) (one : ∀ l, Dat e l → ∃ x, ok x ∧ l = f x) : ∀ (ls : List (List AV)), (∀ l ∈ ls, Dat e l) →
    ∃ xs : List α, xs.length = ls.length ∧ ls.flatten = xs.flatMap f ∧ ∀ x ∈ xs, ok x := by
  intro ls
  induction ls with
  | nil => intro _; exact ⟨[], rfl, rfl, fun x h => by cases h⟩
  | cons l r ih =>
    intro h
    obtain ⟨x, hx, rfl⟩ := one l (h l (by simp))
    obtain ⟨xs, h1, h2, h3⟩ := ih fun l hl => h l (by simp [hl])
    refine ⟨x :: xs, by simp [h1], by simp [h2], fun y hy => ?_⟩
    rcases List.mem_cons.1 hy with rfl | hy
    · exact hx
    · exact h3 y hy
/-- A struct's fields, one after another. -/
theorem dat_st {fs : List TD} {l : List AV} (h : Dat (.st fs) l) : ∃ ls : List (List AV), ls.length = fs.length ∧ l = ls.flatten ∧ ∀ (j : Nat) f l, fs[j]? = some f → ls[j]? = some l → Dat f l := by
  cases h with
  | st fs ls hl h => exact ⟨ls, hl, rfl, h⟩
theorem dat_st_nil {l : List AV} (h : Dat (.st []) l) : l = [] := by
  obtain ⟨ls, h1, rfl, _⟩ := dat_st h
  rw [List.eq_nil_of_length_eq_zero h1]; rfl
theorem dat_st_cons {f : TD} {fs : List TD} {l : List AV} (h : Dat (.st (f :: fs)) l) : ∃ a b, l = a ++ b ∧ Dat f a ∧ Dat (.st fs) b := by
  obtain ⟨ls, h1, rfl, h2⟩ := dat_st h
  cases ls with
  | nil => simp at h1
  | cons a r => exact ⟨a, r.flatten, rfl, h2 0 f a rfl rfl, .st fs r (by simpa using h1) fun j f l x y => h2 (j + 1) f l (by simpa using x) (by simpa using y)⟩
theorem dat_u8 {l : List AV} (h : Dat (.i .u8) l) : ∃ x : BitVec 8, l = [.int .u8 (x.toNat : Int)] := by
  obtain ⟨n, rfl, h1, h2⟩ := dat_i h
  simp [IntKind.min, IntKind.max, IntKind.signed, IntKind.bits] at h1 h2
  refine ⟨BitVec.ofNat 8 n.toNat, ?_⟩
  rw [BitVec.toNat_ofNat, Nat.mod_eq_of_lt (by omega), Int.toNat_of_nonneg h1]
theorem dat_u16 {l : List AV} (h : Dat (.i .u16) l) : ∃ x : BitVec 16, l = [.int .u16 (x.toNat : Int)] := by
  obtain ⟨n, rfl, h1, h2⟩ := dat_i h
  simp [IntKind.min, IntKind.max, IntKind.signed, IntKind.bits] at h1 h2
  refine ⟨BitVec.ofNat 16 n.toNat, ?_⟩
  rw [BitVec.toNat_ofNat, Nat.mod_eq_of_lt (by omega), Int.toNat_of_nonneg h1]
theorem dat_u32 {l : List AV} (h : Dat (.i .u32) l) : ∃ x : BitVec 32, l = [.int .u32 (x.toNat : Int)] := by
  obtain ⟨n, rfl, h1, h2⟩ := dat_i h
  simp [IntKind.min, IntKind.max, IntKind.signed, IntKind.bits] at h1 h2
  refine ⟨BitVec.ofNat 32 n.toNat, ?_⟩
  rw [BitVec.toNat_ofNat, Nat.mod_eq_of_lt (by omega), Int.toNat_of_nonneg h1]
theorem dat_u64 {l : List AV} (h : Dat (.i .u64) l) : ∃ x : BitVec 64, l = [.int .u64 (x.toNat : Int)] := by
  obtain ⟨n, rfl, h1, h2⟩ := dat_i h
  simp [IntKind.min, IntKind.max, IntKind.signed, IntKind.bits] at h1 h2
  refine ⟨BitVec.ofNat 64 n.toNat, ?_⟩
  rw [BitVec.toNat_ofNat, Nat.mod_eq_of_lt (by omega), Int.toNat_of_nonneg h1]
theorem dat_i64 {l : List AV} (h : Dat (.i .i64) l) : ∃ n : Int, l = [.int .i64 n] ∧ -9223372036854775808 ≤ n ∧ n ≤ 9223372036854775807 := by
  obtain ⟨n, rfl, h1, h2⟩ := dat_i h
  simp [IntKind.min, IntKind.max, IntKind.signed, IntKind.bits] at h1 h2
  exact ⟨n, rfl, h1, h2⟩
theorem flatMap_one {α : Type} (f : α → AV) (l : List α) : (l.flatMap fun x => [f x]) = l.map f := by
  induction l with
  | nil => rfl
  | cons a r ih => simp [ih]
theorem dat_bytes {l : List AV} (h : Dat (.sl (.i .u8)) l) : ∃ xs : List (BitVec 8), xs.length ≤ maxLen ∧ l = [byt xs] := by
  cases h with
  | sl e ls hl h =>
    obtain ⟨xs, h1, h2, _⟩ := dat_list (fun x : BitVec 8 => [AV.int .u8 (x.toNat : Int)]) (fun _ => True) (fun l hl => by obtain ⟨x, rfl⟩ := dat_u8 hl; exact ⟨x, trivial, rfl⟩) ls h
    rw [flatMap_one] at h2
    exact ⟨xs, by omega, by rw [h2, ← h1]; rfl⟩
theorem dat_words {l : List AV} (h : Dat (.sl (.i .u32)) l) : ∃ xs : List (BitVec 32), xs.length ≤ maxLen ∧ l = [.ro (wds xs) xs.length] := by
  cases h with
  | sl e ls hl h =>
    obtain ⟨xs, h1, h2, _⟩ := dat_list (fun x : BitVec 32 => [AV.int .u32 (x.toNat : Int)]) (fun _ => True) (fun l hl => by obtain ⟨x, rfl⟩ := dat_u32 hl; exact ⟨x, trivial, rfl⟩) ls h
    rw [flatMap_one] at h2
    exact ⟨xs, by omega, by rw [h2, ← h1]; rfl⟩
theorem dat_ar32 {n : Nat} {l : List AV} (h : Dat (.ar n (.i .u32)) l) : ∃ xs : List (BitVec 32), xs.length = n ∧ l = wds xs := by
  cases h with
  | ar n e ls hl h =>
    obtain ⟨xs, h1, h2, _⟩ := dat_list (fun x : BitVec 32 => [AV.int .u32 (x.toNat : Int)]) (fun _ => True) (fun l hl => by obtain ⟨x, rfl⟩ := dat_u32 hl; exact ⟨x, trivial, rfl⟩) ls h
    rw [flatMap_one] at h2
    exact ⟨xs, by omega, h2⟩
/-- A struct's fields, cell by cell. -/
theorem dat_sl {α : Type} {e : TD} (f : α → List AV) (ok : α → Prop) (one : ∀ l, Dat e l → ∃ x, ok x ∧ l = f x) {l : List AV} (h : Dat (.sl e) l) : ∃ xs : List α, (∀ x ∈ xs, ok x) ∧ xs.length ≤ maxLen ∧ l = [.ro (xs.flatMap f) xs.length] := by
  cases h with
  | sl e ls hl h =>
    obtain ⟨xs, h1, h2, h3⟩ := dat_list f ok one ls h
    exact ⟨xs, h3, by omega, by rw [h2, ← h1]⟩
end Go.Ab
end
section
/- What is known of beginnings that come in. -/
set_option linter.unusedVariables false
namespace Go.Ab
def tdArr : TD := .st [.i .u64, .i .u8]
def tdPt : TD := .st [.i .u32, .sl (.i .u8)]
def tdStart : TD := .st [.i .i64, .sl tdPt, .sl tdArr, .i .u32, .ar 32 (.i .u32), .st [.i .u32, .i .u32, .i .u32, .i .u32, .i .u32, .i .u32, .i .u32], .i .u64, .i .u64, .st [.i .u64, .i .u64, .b], .i .u64, .i .u64]
theorem dat_kept {l : List AV} (h : Dat (.st [.i .u32, .i .u32, .i .u32, .i .u32, .i .u32, .i .u32, .i .u32]) l) : ∃ k : Kp, l = wds k.l := by
  obtain ⟨_, _, rfl, h1, h⟩ := dat_st_cons h
  obtain ⟨_, _, rfl, h2, h⟩ := dat_st_cons h
  obtain ⟨_, _, rfl, h3, h⟩ := dat_st_cons h
  obtain ⟨_, _, rfl, h4, h⟩ := dat_st_cons h
  obtain ⟨_, _, rfl, h5, h⟩ := dat_st_cons h
  obtain ⟨_, _, rfl, h6, h⟩ := dat_st_cons h
  obtain ⟨_, _, rfl, h7, h⟩ := dat_st_cons h
  obtain rfl := dat_st_nil h
  obtain ⟨a, rfl⟩ := dat_u32 h1
  obtain ⟨b, rfl⟩ := dat_u32 h2
  obtain ⟨c, rfl⟩ := dat_u32 h3
  obtain ⟨d, rfl⟩ := dat_u32 h4
  obtain ⟨e, rfl⟩ := dat_u32 h5
  obtain ⟨f, rfl⟩ := dat_u32 h6
  obtain ⟨g, rfl⟩ := dat_u32 h7
  exact ⟨⟨a, b, c, d, e, f, g⟩, rfl⟩
theorem dat_arr {l : List AV} (h : Dat tdArr l) : ∃ a : IArr, True ∧ l = a.cells := by
  obtain ⟨_, _, rfl, h1, h⟩ := dat_st_cons h
  obtain ⟨_, _, rfl, h2, h⟩ := dat_st_cons h
  obtain rfl := dat_st_nil h
  obtain ⟨a, rfl⟩ := dat_u64 h1
  obtain ⟨b, rfl⟩ := dat_u8 h2
  exact ⟨⟨a, b⟩, trivial, rfl⟩
theorem dat_pt {l : List AV} (h : Dat tdPt l) : ∃ p : IPart, p.b.length ≤ maxLen ∧ l = p.cells := by
  obtain ⟨_, _, rfl, h1, h⟩ := dat_st_cons h
  obtain ⟨_, _, rfl, h2, h⟩ := dat_st_cons h
  obtain rfl := dat_st_nil h
  obtain ⟨a, rfl⟩ := dat_u32 h1
  obtain ⟨b, hb, rfl⟩ := dat_bytes h2
  exact ⟨⟨a, b⟩, hb, rfl⟩
theorem dat_tim {l : List AV} (h : Dat (.st [.i .u64, .i .u64, .b]) l) : ∃ t : ITim, l = t.cells := by
  obtain ⟨_, _, rfl, h1, h⟩ := dat_st_cons h
  obtain ⟨_, _, rfl, h2, h⟩ := dat_st_cons h
  obtain ⟨_, _, rfl, h3, h⟩ := dat_st_cons h
  obtain rfl := dat_st_nil h
  obtain ⟨a, rfl⟩ := dat_u64 h1
  obtain ⟨b, rfl⟩ := dat_u64 h2
  obtain ⟨c, rfl⟩ := dat_b h3
  exact ⟨⟨a, b, c⟩, rfl⟩
theorem dat_start {l : List AV} (h : Dat tdStart l) : ∃ s : ISt, (∀ p ∈ s.parts, p.b.length ≤ maxLen) ∧ l = s.cells := by
  obtain ⟨_, _, rfl, h1, h⟩ := dat_st_cons h
  obtain ⟨_, _, rfl, h2, h⟩ := dat_st_cons h
  obtain ⟨_, _, rfl, h3, h⟩ := dat_st_cons h
  obtain ⟨_, _, rfl, h4, h⟩ := dat_st_cons h
  obtain ⟨_, _, rfl, h5, h⟩ := dat_st_cons h
  obtain ⟨_, _, rfl, h6, h⟩ := dat_st_cons h
  obtain ⟨_, _, rfl, h7, h⟩ := dat_st_cons h
  obtain ⟨_, _, rfl, h8, h⟩ := dat_st_cons h
  obtain ⟨_, _, rfl, h9, h⟩ := dat_st_cons h
  obtain ⟨_, _, rfl, h10, h⟩ := dat_st_cons h
  obtain ⟨_, _, rfl, h11, h⟩ := dat_st_cons h
  obtain rfl := dat_st_nil h
  obtain ⟨size, rfl, _⟩ := dat_i64 h1
  obtain ⟨parts, hp, _, rfl⟩ := dat_sl IPart.cells (fun p => p.b.length ≤ maxLen) (fun l => dat_pt) h2
  obtain ⟨input, _, _, rfl⟩ := dat_sl IArr.cells (fun _ => True) (fun l => dat_arr) h3
  obtain ⟨pc, rfl⟩ := dat_u32 h4
  obtain ⟨r, hr, rfl⟩ := dat_ar32 h5
  obtain ⟨k, rfl⟩ := dat_kept h6
  obtain ⟨cyc, rfl⟩ := dat_u64 h7
  obtain ⟨ins, rfl⟩ := dat_u64 h8
  obtain ⟨t, rfl⟩ := dat_tim h9
  obtain ⟨tick, rfl⟩ := dat_u64 h10
  obtain ⟨ret, rfl⟩ := dat_u64 h11
  refine ⟨⟨size, parts, input, pc, rgOf r, k, cyc, ins, t, tick, ret⟩, hp, ?_⟩
  rw [ISt.cells, rgOf_toList hr]
  rfl
end Go.Ab
end
section
/- What is known of blocks that come in. -/
set_option linter.unusedVariables false
namespace Go.Ab
def tdOp : TD := .st [.i .i64, .i .i64, .i .i64, .i .u32, .i .i64, .i .i64]
def tdVl : TD := .st [.i .i64, .i .i64]
def tdEx : TD := .st [.i .i64, .i .u32, .i .i64, .i .i64, .sl tdVl]
def tdBk : TD := .st [.sl (.i .u32), .sl tdOp, .sl tdEx, .i .i64]
theorem dat_op {l : List AV} (h : Dat tdOp l) : ∃ o : IOp, True ∧ l = o.cells := by
  obtain ⟨_, _, rfl, h1, h⟩ := dat_st_cons h
  obtain ⟨_, _, rfl, h2, h⟩ := dat_st_cons h
  obtain ⟨_, _, rfl, h3, h⟩ := dat_st_cons h
  obtain ⟨_, _, rfl, h4, h⟩ := dat_st_cons h
  obtain ⟨_, _, rfl, h5, h⟩ := dat_st_cons h
  obtain ⟨_, _, rfl, h6, h⟩ := dat_st_cons h
  obtain rfl := dat_st_nil h
  obtain ⟨a, rfl, _⟩ := dat_i64 h1
  obtain ⟨b, rfl, _⟩ := dat_i64 h2
  obtain ⟨c, rfl, _⟩ := dat_i64 h3
  obtain ⟨d, rfl⟩ := dat_u32 h4
  obtain ⟨e, rfl, _⟩ := dat_i64 h5
  obtain ⟨f, rfl, _⟩ := dat_i64 h6
  exact ⟨⟨a, b, c, d, e, f⟩, trivial, rfl⟩
theorem dat_vl {l : List AV} (h : Dat tdVl l) : ∃ v : IVl, True ∧ l = v.cells := by
  obtain ⟨_, _, rfl, h1, h⟩ := dat_st_cons h
  obtain ⟨_, _, rfl, h2, h⟩ := dat_st_cons h
  obtain rfl := dat_st_nil h
  obtain ⟨a, rfl, _⟩ := dat_i64 h1
  obtain ⟨b, rfl, _⟩ := dat_i64 h2
  exact ⟨⟨a, b⟩, trivial, rfl⟩
theorem dat_ex {l : List AV} (h : Dat tdEx l) : ∃ e : IEx, True ∧ l = e.cells := by
  obtain ⟨_, _, rfl, h1, h⟩ := dat_st_cons h
  obtain ⟨_, _, rfl, h2, h⟩ := dat_st_cons h
  obtain ⟨_, _, rfl, h3, h⟩ := dat_st_cons h
  obtain ⟨_, _, rfl, h4, h⟩ := dat_st_cons h
  obtain ⟨_, _, rfl, h5, h⟩ := dat_st_cons h
  obtain rfl := dat_st_nil h
  obtain ⟨a, rfl, _⟩ := dat_i64 h1
  obtain ⟨b, rfl⟩ := dat_u32 h2
  obtain ⟨c, rfl, _⟩ := dat_i64 h3
  obtain ⟨d, rfl, _⟩ := dat_i64 h4
  obtain ⟨m, _, _, rfl⟩ := dat_sl IVl.cells (fun _ => True) (fun l => dat_vl) h5
  exact ⟨⟨a, b, c, d, m⟩, trivial, rfl⟩
theorem dat_bk {l : List AV} (h : Dat tdBk l) : ∃ b : IBk, b.exits.length ≤ maxLen ∧ l = b.cells := by
  obtain ⟨_, _, rfl, h1, h⟩ := dat_st_cons h
  obtain ⟨_, _, rfl, h2, h⟩ := dat_st_cons h
  obtain ⟨_, _, rfl, h3, h⟩ := dat_st_cons h
  obtain ⟨_, _, rfl, h4, h⟩ := dat_st_cons h
  obtain rfl := dat_st_nil h
  obtain ⟨p, _, rfl⟩ := dat_words h1
  obtain ⟨o, _, _, rfl⟩ := dat_sl IOp.cells (fun _ => True) (fun l => dat_op) h2
  obtain ⟨e, _, he, rfl⟩ := dat_sl IEx.cells (fun _ => True) (fun l => dat_ex) h3
  obtain ⟨a, rfl, _⟩ := dat_i64 h4
  exact ⟨⟨p, o, e, a⟩, he, rfl⟩
end Go.Ab
end
section
/- The statement ApplyDoesSaid, from the contract of its function. -/
namespace Go.Proofs.YtephiagmompfjaaGreat
open Go.ChangeShapes Go.WideShapes Go.ChangeAt Go.RowKit Go.Ab
set_option linter.unusedVariables false

theorem ownApplyDoesSaid : ownKnob Tryz.prog.godebug = none := by kernel_rfl
theorem laidOutApplyDoesSaid : laidOutB Tryz.prog = true := by kernel_rfl
theorem tdApplyDoesSaid0 : tdOf Tryz.prog 8 32 = some (tdStart) := by kernel_rfl
theorem tdApplyDoesSaid1 : tdOf Tryz.prog 8 37 = some (tdBk) := by kernel_rfl
theorem tdApplyDoesSaid2 : tdOf Tryz.prog 8 3 = some (.i .i64) := by kernel_rfl
set_option maxRecDepth 100000 in
theorem liftedApplyDoesSaid (os : Os) (started : os.Started) (H : Type) (enc : TypeId × Value → H) :
    ReturnsInHanded {} Tryz.checked os 3 .any (Rows.applyDoesSpec.pre6 enc Tryz.prog Tryz.f3 Rows.applyDoesRow.domain false) (Rows.applyDoesSpec.post enc Tryz.prog Tryz.f3 false true false false) := by
  refine returnsInHanded_of_change (C := Tryz.checked) ownApplyDoesSaid started (by kernel_rfl) Tryz.func3
    (ChangeSpec.witness6 (enc := enc) (C := Tryz.checked) false ⟨#[], #[.agg #[.int .i64 0, .slice none 0 0, .slice none 0 0, .int .u32 0, .int .u32 0, .int .u32 0, .int .u32 0, .int .u32 0, .int .u32 0, .int .u32 0, .int .u32 0, .int .u32 0, .int .u32 0, .int .u32 0, .int .u32 0, .int .u32 0, .int .u32 0, .int .u32 0, .int .u32 0, .int .u32 0, .int .u32 0, .int .u32 0, .int .u32 0, .int .u32 0, .int .u32 0, .int .u32 0, .int .u32 0, .int .u32 0, .int .u32 0, .int .u32 0, .int .u32 0, .int .u32 0, .int .u32 0, .int .u32 0, .int .u32 0, .int .u32 0, .int .u32 0, .int .u32 0, .int .u32 0, .int .u32 0, .int .u32 0, .int .u32 0, .int .u32 0, .int .u64 0, .int .u64 0, .int .u64 0, .int .u64 0, .bool false, .int .u64 0, .int .u64 0], .agg #[.slice none 0 0, .slice none 0 0, .slice none 0 0, .int .i64 0], .int .i64 0], []⟩ 8 (by kernel_rfl) (by kernel_rfl) (by kernel_rfl) (by kernel_rfl)) ?_
  intro W base args ds gs before hval0 hW hcnd _
  have hval : ∀ (j : Nat) t v, Tryz.f3.params[j]? = some t → args[j]? = some v → Value.okWide Tryz.prog W .any base t v := hval0
  have hW' := hW
  obtain ⟨p, q, hA0, hV, rfl, hfz, hnd⟩ := hW
  have hA : DataW.TrodAll enc Tryz.prog W 0 (fun _ => true) true Tryz.f3.params.toList args.toList ds p := hA0
  rw [Tryz.params3] at hA hval
  obtain ⟨v0, vs0, d0, ds0, p0, q0, hargs, rfl, rfl, h0, r0⟩ := trodAll_cons hA
  obtain ⟨v1, vs1, d1, ds1, p1, q1, rfl, rfl, rfl, h1, r1⟩ := trodAll_cons r0
  obtain ⟨v2, vs2, d2, ds2, p2, q2, rfl, rfl, rfl, h2, r2⟩ := trodAll_cons r1
  obtain ⟨rfl, rfl, rfl⟩ := trodAll_nil r2
  obtain rfl : args = #[v0, v1, v2] := by cases args; simp_all
  obtain ⟨rfl, rfl⟩ := trodVars_none hV
  have k0 := h0
  have lt0 : ∀ x ∈ p0, x.block < W.heap.size := by obtain ⟨m, hm⟩ := k0; exact DataW.trod_lt m _ _ _ hm
  obtain ⟨av0, dt0, rp0⟩ := arg_of (hval 0 32 v0 rfl rfl) h0 tdApplyDoesSaid0
  obtain ⟨x0, hx0, rfl⟩ := dat_start dt0
  have k1 := h1
  have lt1 : ∀ x ∈ p1, x.block < W.heap.size := by obtain ⟨m, hm⟩ := k1; exact DataW.trod_lt m _ _ _ hm
  obtain ⟨av1, dt1, rp1⟩ := arg_of (hval 1 37 v1 rfl rfl) h1 tdApplyDoesSaid1
  obtain ⟨x1, hx1, rfl⟩ := dat_bk dt1
  have k2 := h2
  have lt2 : ∀ x ∈ p2, x.block < W.heap.size := by obtain ⟨m, hm⟩ := k2; exact DataW.trod_lt m _ _ _ hm
  obtain ⟨av2, dt2, rp2⟩ := arg_of (hval 2 3 v2 rfl rfl) h2 tdApplyDoesSaid2
  obtain ⟨x2, rfl, _⟩ := dat_i64 dt2
  clear hA0 hval0
  refine (law_calls ((lawDoes25_spec x0 x1 x2 (by have := hx1; unfold maxLen at this; exact this) (by have := hx0; unfold maxLen at this; exact this)).mono fun r _ e => e.1) (((RepL.nil.cons rp2).cons rp1).cons rp0)).mono fun e W' ⟨he, bel⟩ => ?_
  subst he
  exact ⟨_, rfl, _, _, _, [], _, [], hW', trodAll_mk1 (shut_bool Tryz.underlying4 _), (trodAll_cons_mk (Below.trod laidOutApplyDoesSaid (by kernel_rfl) (of_decide_eq_true (by kernel_rfl)) k0 bel lt0) (trodAll_cons_mk (Below.trod laidOutApplyDoesSaid (by kernel_rfl) (of_decide_eq_true (by kernel_rfl)) k1 bel lt1) (trodAll_cons_mk (Below.trod laidOutApplyDoesSaid (by kernel_rfl) (of_decide_eq_true (by kernel_rfl)) k2 bel lt2) trodAll_mk0))), rfl, bel.frame _, fun h => by cases h⟩
theorem overApplyDoesSaid : Rows.applyDoesRow.holds Tryz.pinned (OpenSpec.ofChange Rows.applyDoesSpec) :=
  OpenClaim.holds_of_wide 3 Tryz.f3 rfl rfl rfl rfl rfl rfl rfl ⟨rfl, rfl, rfl, rfl, rfl⟩ rfl rfl rfl rfl rfl (by kernel_rfl) Tryz.func3 (by kernel_rfl)
    (of_decide_eq_true (by kernel_rfl)) (by unfold Func.isWrapper; first | (rw [if_pos (by decide +kernel)]; kernel_rfl) | (rw [if_neg (by decide +kernel)]; exact ⟨rfl, rfl⟩))
    (fun os started H enc _ => liftedApplyDoesSaid os started H enc)
/-- The statement. -/
theorem provedApplyDoesSaid : Rows.ApplyDoesSaid := overApplyDoesSaid
end Go.Proofs.YtephiagmompfjaaGreat
end
