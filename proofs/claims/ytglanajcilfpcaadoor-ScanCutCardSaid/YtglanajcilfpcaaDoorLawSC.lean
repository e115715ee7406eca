/- The statement ScanCutCardSaid: its row, from the contract of its function; its card, by the given tie. -/
import Derived.Test.YtglanajcilfpcaaDoorDatS
import Derived.Test.YtglanajcilfpcaaDoorWg
import Derived.Test.YtglanajcilfpcaaDoorRows
import Derived.Test.YtglanajcilfpcaaDoorTie
import Derived.Test.YtglanajcilfpcaaDoorCards
import Derived.SevenTiedAt
import Derived.LaidMore
import Derived.OpenShut
import Derived.Stop.Joined
import Derived.WalkKit
namespace Go.Proofs.YtglanajcilfpcaaDoor
open Go.ChangeShapes Go.WideShapes Go.ChangeAt Go.RowKit Go.Ab
set_option linter.unusedVariables false

theorem ownScanCut : ownKnob Tryd.prog.godebug = none := by kernel_rfl
theorem laidOutScanCut : laidOutB Tryd.prog = true := by kernel_rfl
theorem tdScanCut0 : tdOf Tryd.prog 8 22 = some (.sl (.i .u8)) := by kernel_rfl
theorem tdScanCut1 : tdOf Tryd.prog 8 23 = some (.i .u32) := by kernel_rfl
theorem doorScanCut (os : Os) (args : Array Value) : laidMetH Tryd.prog [("mimesis/inst.forms", Rows.laid_mimesis_inst_forms)] ((World.doorLaid Tryd.prog 400 os).forCall (fun _ _ => 0) ⟨#[], args, []⟩).memory :=
  laidMetH_of_parts3 (fuel := 8) (laidMet_of_run' 8 (by kernel_rfl) (by kernel_rfl)) (by kernel_rfl) (by kernel_rfl)
set_option maxRecDepth 100000 in
theorem liftedScanCut (os : Os) (started : os.Started) (H : Type) (enc : TypeId × Value → H) :
    ReturnsInHanded {} Tryd.checked os 5 .any (fun w args => (Rows.scanCutSpec.pre enc Tryd.prog Tryd.f5 [] false w args ∧ laidMetH Tryd.prog [("mimesis/inst.forms", Rows.laid_mimesis_inst_forms)] w) ∧ sizedMet enc Tryd.prog Tryd.f5 (OpenSpec.ofChange Rows.scanCutSpec) false w args)
      (Rows.scanCutSpec.post enc Tryd.prog Tryd.f5 false true false false) := by
  refine returnsInHanded_of_change_and (C := Tryd.checked) (X := fun w _ => laidMetH Tryd.prog [("mimesis/inst.forms", Rows.laid_mimesis_inst_forms)] w) (fun _ _ _ hh h => h.of_heap hh) ownScanCut started (by kernel_rfl) Tryd.func5
    (ChangeSpec.witness_shaped (enc := enc) (C := Tryd.checked) (os := os) (X := fun w _ => laidMetH Tryd.prog [("mimesis/inst.forms", Rows.laid_mimesis_inst_forms)] w) false (World.doorLaid Tryd.prog 400 os) #[.slice none 0 0, .int .u32 0] 8 rfl (World.shaped_of_RefB (by kernel_rfl) (by kernel_rfl)) (by kernel_rfl) (by kernel_rfl) (by kernel_rfl) (doorScanCut os _)) ?_
  intro W base args ds gs before hval0 hW _ _ hL _
  have hval : ∀ (j : Nat) t v, Tryd.f5.params[j]? = some t → args[j]? = some v → Value.okWide Tryd.prog W .any base t v := hval0
  have hW' := hW
  obtain ⟨p, q, hA0, hV, rfl, hfz, hnd⟩ := hW
  have hA : DataW.TrodAll enc Tryd.prog W 0 (fun _ => true) true Tryd.f5.params.toList args.toList ds p := hA0
  rw [Tryd.params5] at hA hval
  obtain ⟨v0, vs0, d0, ds0, p0, q0, hargs, rfl, rfl, h0, r0⟩ := trodAll_cons hA
  obtain ⟨v1, vs1, d1, ds1, p1, q1, rfl, rfl, rfl, h1, r1⟩ := trodAll_cons r0
  obtain ⟨rfl, rfl, rfl⟩ := trodAll_nil r1
  obtain rfl : args = #[v0, v1] := by cases args; simp_all
  obtain ⟨rfl, rfl⟩ := trodVars_none hV
  have k0 := h0
  have lt0 : ∀ x ∈ p0, x.block < W.heap.size := by obtain ⟨m, hm⟩ := k0; exact DataW.trod_lt m _ _ _ hm
  obtain ⟨av0, dt0, rp0⟩ := arg_of (hval 0 22 v0 rfl rfl) h0 tdScanCut0
  obtain ⟨x0, _, rfl⟩ := dat_bytes dt0
  have k1 := h1
  have lt1 : ∀ x ∈ p1, x.block < W.heap.size := by obtain ⟨m, hm⟩ := k1; exact DataW.trod_lt m _ _ _ hm
  obtain ⟨av1, dt1, rp1⟩ := arg_of (hval 1 23 v1 rfl rfl) h1 tdScanCut1
  obtain ⟨x1, rfl⟩ := dat_u32 dt1
  clear hA0 hval0
  refine (law_callsG ((lawCut_spec G1_gf x0 x1).mono fun r _ e => e.1) (forms_of hL) ((RepL.nil.cons rp1).cons rp0)).mono fun e W' ⟨he, bel⟩ => ?_
  subst he
  exact ⟨_, rfl, _, _, _, [], _, [], hW', trodAll_mk1 (shut_bool Tryd.underlying4 _), (trodAll_cons_mk (Below.trod laidOutScanCut (by kernel_rfl) (of_decide_eq_true (by kernel_rfl)) k0 bel lt0) (trodAll_cons_mk (Below.trod laidOutScanCut (by kernel_rfl) (of_decide_eq_true (by kernel_rfl)) k1 bel lt1) trodAll_mk0)), rfl, bel.frame _, fun h => by cases h⟩
theorem overScanCut : Rows.scanCutRow.holds Tryd.pinned (OpenSpec.ofChange Rows.scanCutSpec) :=
  OpenClaim.holds_of_wide 5 Tryd.f5 rfl rfl rfl rfl rfl rfl rfl ⟨rfl, rfl, rfl, rfl, rfl⟩ rfl rfl rfl rfl rfl (by kernel_rfl) Tryd.func5 (by kernel_rfl)
    (of_decide_eq_true (by kernel_rfl)) (by unfold Func.isWrapper; first | (rw [if_pos (by decide +kernel)]; kernel_rfl) | (rw [if_neg (by decide +kernel)]; exact ⟨rfl, rfl⟩))
    (fun os started H enc _ => liftedScanCut os started H enc)
/-- The statement. -/
theorem provedScanCutCardSaid : Rows.ScanCutCardSaid :=
  Claim7.holds_tied_plain_at .later [] [.data] true Rows.scanCutCard.stood.harness false
    overScanCut (fun _ h => by cases h) (by kernel_rfl) (fun _ h => by cases h) scanCut_row_tie rfl ⟨rfl, rfl⟩ (by kernel_rfl) rfl
    (fun f fn hf hfn => by
      obtain rfl : f = 5 := Option.some.inj ((show Tryd.prog.funcNamed "mimesis/mimesislaw26.ScanCut" = some 5 by kernel_rfl).symm.trans hf) |>.symm
      obtain rfl : fn = Tryd.f5 := (Option.some.inj (Tryd.func5.symm.trans hfn)).symm
      exact ⟨by kernel_rfl, fun j t ht => by
        rw [Tryd.params5] at ht
        have hm : t ∈ [22, 23] := by simpa using Array.mem_of_getElem? ht
        have hall : ([22, 23].all fun u => !Tryd.prog.wantsStandIn u) = true := by kernel_rfl
        exact (show Tryd.prog.wantsStandIn t = false by simpa using List.all_eq_true.1 hall t hm)⟩)
    (by kernel_rfl)
end Go.Proofs.YtglanajcilfpcaaDoor
