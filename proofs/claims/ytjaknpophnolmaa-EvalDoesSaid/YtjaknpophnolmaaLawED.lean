/- The statement EvalDoesSaid, from the contract of its function. -/
import Derived.Test.YtjaknpophnolmaaDatW
import Derived.Test.YtjaknpophnolmaaE20
import Derived.Test.YtjaknpophnolmaaRows
import Derived.WalkKit
namespace Go.Proofs.Ytjaknpophnolmaa
open Go.ChangeShapes Go.WideShapes Go.ChangeAt Go.RowKit Go.Ab
set_option linter.unusedVariables false

theorem ownEvalDoesSaid : ownKnob Try.prog.godebug = none := by kernel_rfl
theorem laidOutEvalDoesSaid : laidOutB Try.prog = true := by kernel_rfl
theorem tdEvalDoesSaid0 : tdOf Try.prog 8 36 = some (tdBk) := by kernel_rfl
theorem tdEvalDoesSaid1 : tdOf Try.prog 8 41 = some (tdWd) := by kernel_rfl
set_option maxRecDepth 100000 in
theorem liftedEvalDoesSaid (os : Os) (started : os.Started) (H : Type) (enc : TypeId × Value → H) :
    ReturnsInHanded {} Try.checked os 5 .any (Rows.evalDoesSpec.pre6 enc Try.prog Try.f5 Rows.evalDoesRow.domain false) (Rows.evalDoesSpec.post enc Try.prog Try.f5 false true false false) := by
  refine returnsInHanded_of_change (C := Try.checked) ownEvalDoesSaid started (by kernel_rfl) Try.func5
    (ChangeSpec.witness6 (enc := enc) (C := Try.checked) false ⟨#[], #[.agg #[.slice none 0 0, .slice none 0 0, .slice none 0 0, .int .i64 0], .agg #[.int .u32 0, .int .u32 0, .int .u32 0, .int .u32 0, .int .u32 0, .int .u32 0, .int .u32 0, .int .u32 0, .int .u32 0, .int .u32 0, .int .u32 0, .int .u32 0, .int .u32 0, .int .u32 0, .int .u32 0, .int .u32 0, .int .u32 0, .int .u32 0, .int .u32 0, .int .u32 0, .int .u32 0, .int .u32 0, .int .u32 0, .int .u32 0, .int .u32 0, .int .u32 0, .int .u32 0, .int .u32 0, .int .u32 0, .int .u32 0, .int .u32 0, .int .u32 0, .int .i64 0, .slice none 0 0, .int .u16 0]], []⟩ 8 (by kernel_rfl) (by kernel_rfl) (by kernel_rfl) (by kernel_rfl)) ?_
  intro W base args ds gs before hval0 hW hcnd _
  have hval : ∀ (j : Nat) t v, Try.f5.params[j]? = some t → args[j]? = some v → Value.okWide Try.prog W .any base t v := hval0
  have hW' := hW
  obtain ⟨p, q, hA0, hV, rfl, hfz, hnd⟩ := hW
  have hA : DataW.TrodAll enc Try.prog W 0 (fun _ => true) true Try.f5.params.toList args.toList ds p := hA0
  rw [Try.params5] at hA hval
  obtain ⟨v0, vs0, d0, ds0, p0, q0, hargs, rfl, rfl, h0, r0⟩ := trodAll_cons hA
  obtain ⟨v1, vs1, d1, ds1, p1, q1, rfl, rfl, rfl, h1, r1⟩ := trodAll_cons r0
  obtain ⟨rfl, rfl, rfl⟩ := trodAll_nil r1
  obtain rfl : args = #[v0, v1] := by cases args; simp_all
  obtain ⟨rfl, rfl⟩ := trodVars_none hV
  have k0 := h0
  have lt0 : ∀ x ∈ p0, x.block < W.heap.size := by obtain ⟨m, hm⟩ := k0; exact DataW.trod_lt m _ _ _ hm
  obtain ⟨av0, dt0, rp0⟩ := arg_of (hval 0 36 v0 rfl rfl) h0 tdEvalDoesSaid0
  obtain ⟨x0, hx0, rfl⟩ := dat_bk dt0
  have k1 := h1
  have lt1 : ∀ x ∈ p1, x.block < W.heap.size := by obtain ⟨m, hm⟩ := k1; exact DataW.trod_lt m _ _ _ hm
  obtain ⟨av1, dt1, rp1⟩ := arg_of (hval 1 41 v1 rfl rfl) h1 tdEvalDoesSaid1
  obtain ⟨x1, hx1, rfl⟩ := dat_wd dt1
  clear hA0 hval0
  refine (law_calls ((lawDoes_spec x0 x1 (by have := hx0; unfold maxLen at this; exact this) hx1).mono fun r _ e => e.1) ((RepL.nil.cons rp1).cons rp0)).mono fun e W' ⟨he, bel⟩ => ?_
  subst he
  exact ⟨_, rfl, _, _, _, [], _, [], hW', trodAll_mk1 (shut_bool Try.underlying4 _), (trodAll_cons_mk (Below.trod laidOutEvalDoesSaid (by kernel_rfl) (of_decide_eq_true (by kernel_rfl)) k0 bel lt0) (trodAll_cons_mk (Below.trod laidOutEvalDoesSaid (by kernel_rfl) (of_decide_eq_true (by kernel_rfl)) k1 bel lt1) trodAll_mk0)), rfl, bel.frame _, fun h => by cases h⟩
theorem overEvalDoesSaid : Rows.evalDoesRow.holds Try.pinned (OpenSpec.ofChange Rows.evalDoesSpec) :=
  OpenClaim.holds_of_wide 5 Try.f5 rfl rfl rfl rfl rfl rfl rfl ⟨rfl, rfl, rfl, rfl, rfl⟩ rfl rfl rfl rfl rfl (by kernel_rfl) Try.func5 (by kernel_rfl)
    (of_decide_eq_true (by kernel_rfl)) (by unfold Func.isWrapper; first | (rw [if_pos (by decide +kernel)]; kernel_rfl) | (rw [if_neg (by decide +kernel)]; exact ⟨rfl, rfl⟩))
    (fun os started H enc _ => liftedEvalDoesSaid os started H enc)
/-- The statement. -/
theorem provedEvalDoesSaid : Rows.EvalDoesSaid := overEvalDoesSaid
end Go.Proofs.Ytjaknpophnolmaa
