/- The statement RecordWritesSaid, from the contract of its function. -/
import Derived.Test.YtecfchkmmnphdaaDatR
import Derived.Test.YtecfchkmmnphdaaR10
import Derived.Test.YtecfchkmmnphdaaRows
import Derived.WalkKit
namespace Go.Proofs.Ytecfchkmmnphdaa
open Go.ChangeShapes Go.WideShapes Go.ChangeAt Go.RowKit Go.Ab
set_option linter.unusedVariables false

theorem ownRecordWritesSaid : ownKnob Try.prog.godebug = none := by kernel_rfl
theorem laidOutRecordWritesSaid : laidOutB Try.prog = true := by kernel_rfl
theorem tdRecordWritesSaid0 : tdOf Try.prog 8 32 = some (.sl tdEvt) := by kernel_rfl
set_option maxRecDepth 100000 in
theorem liftedRecordWritesSaid (os : Os) (started : os.Started) (H : Type) (enc : TypeId × Value → H) :
    ReturnsInHanded {} Try.checked os 9 .any (Rows.recordWritesSpec.pre6 enc Try.prog Try.f9 Rows.recordWritesRow.domain false) (Rows.recordWritesSpec.post enc Try.prog Try.f9 false true false false) := by
  refine returnsInHanded_of_change (C := Try.checked) ownRecordWritesSaid started (by kernel_rfl) Try.func9
    (ChangeSpec.witness6 (enc := enc) (C := Try.checked) false ⟨#[], #[.slice none 0 0], []⟩ 8 (by kernel_rfl) (by kernel_rfl) (by kernel_rfl) (by kernel_rfl)) ?_
  intro W base args ds gs before hval0 hW hcnd _
  have hval : ∀ (j : Nat) t v, Try.f9.params[j]? = some t → args[j]? = some v → Value.okWide Try.prog W .any base t v := hval0
  have hW' := hW
  obtain ⟨p, q, hA0, hV, rfl, hfz, hnd⟩ := hW
  have hA : DataW.TrodAll enc Try.prog W 0 (fun _ => true) true Try.f9.params.toList args.toList ds p := hA0
  rw [Try.params9] at hA hval
  obtain ⟨v0, vs0, d0, ds0, p0, q0, hargs, rfl, rfl, h0, r0⟩ := trodAll_cons hA
  obtain ⟨rfl, rfl, rfl⟩ := trodAll_nil r0
  obtain rfl : args = #[v0] := by cases args; simp_all
  obtain ⟨rfl, rfl⟩ := trodVars_none hV
  have k0 := h0
  have lt0 : ∀ x ∈ p0, x.block < W.heap.size := by obtain ⟨m, hm⟩ := k0; exact DataW.trod_lt m _ _ _ hm
  obtain ⟨av0, dt0, rp0⟩ := arg_of (hval 0 32 v0 rfl rfl) h0 tdRecordWritesSaid0
  obtain ⟨x0, lx0, rfl⟩ := dat_evts dt0
  clear hA0 hval0
  refine (law_calls ((lawWrites_spec x0).mono fun r _ e => e.1) (RepL.nil.cons rp0)).mono fun e W' ⟨he, bel⟩ => ?_
  subst he
  exact ⟨_, rfl, _, _, _, [], _, [], hW', trodAll_mk1 (shut_bool Try.underlying4 _), (trodAll_cons_mk (Below.trod laidOutRecordWritesSaid (by kernel_rfl) (of_decide_eq_true (by kernel_rfl)) k0 bel lt0) trodAll_mk0), rfl, bel.frame _, fun h => by cases h⟩
theorem overRecordWritesSaid : Rows.recordWritesRow.holds Try.pinned (OpenSpec.ofChange Rows.recordWritesSpec) :=
  OpenClaim.holds_of_wide 9 Try.f9 rfl rfl rfl rfl rfl rfl rfl ⟨rfl, rfl, rfl, rfl, rfl⟩ rfl rfl rfl rfl rfl (by kernel_rfl) Try.func9 (by kernel_rfl)
    (of_decide_eq_true (by kernel_rfl)) (by unfold Func.isWrapper; first | (rw [if_pos (by decide +kernel)]; kernel_rfl) | (rw [if_neg (by decide +kernel)]; exact ⟨rfl, rfl⟩))
    (fun os started H enc _ => liftedRecordWritesSaid os started H enc)
/-- The statement. -/
theorem provedRecordWritesSaid : Rows.RecordWritesSaid := overRecordWritesSaid
end Go.Proofs.Ytecfchkmmnphdaa
