/- The statement EvalPureSaid, from the contract of its function. -/
import Derived.Test.YtjaknpophnolmaaDatB0
import Derived.Test.YtjaknpophnolmaaE9
import Derived.Test.YtjaknpophnolmaaRows
import Derived.WalkKit
namespace Go.Proofs.Ytjaknpophnolmaa
open Go.ChangeShapes Go.WideShapes Go.ChangeAt Go.RowKit Go.Ab
set_option linter.unusedVariables false

theorem ownEvalPureSaid : ownKnob Try.prog.godebug = none := by kernel_rfl
theorem laidOutEvalPureSaid : laidOutB Try.prog = true := by kernel_rfl
theorem tdEvalPureSaid0 : tdOf Try.prog 8 24 = some (tdOp) := by kernel_rfl
theorem tdEvalPureSaid1 : tdOf Try.prog 8 22 = some (.i .u32) := by kernel_rfl
theorem tdEvalPureSaid2 : tdOf Try.prog 8 22 = some (.i .u32) := by kernel_rfl
set_option maxRecDepth 100000 in
theorem liftedEvalPureSaid (os : Os) (started : os.Started) (H : Type) (enc : TypeId × Value → H) :
    ReturnsInHanded {} Try.checked os 3 .any (Rows.evalPureSpec.pre6 enc Try.prog Try.f3 Rows.evalPureRow.domain false) (Rows.evalPureSpec.post enc Try.prog Try.f3 false true false false) := by
  refine returnsInHanded_of_change (C := Try.checked) ownEvalPureSaid started (by kernel_rfl) Try.func3
    (ChangeSpec.witness6 (enc := enc) (C := Try.checked) false ⟨#[], #[.agg #[.int .i64 0, .int .i64 0, .int .i64 0, .int .u32 0, .int .i64 0, .int .i64 0], .int .u32 0, .int .u32 0], []⟩ 8 (by kernel_rfl) (by kernel_rfl) (by kernel_rfl) (by kernel_rfl)) ?_
  intro W base args ds gs before hval0 hW hcnd _
  have hval : ∀ (j : Nat) t v, Try.f3.params[j]? = some t → args[j]? = some v → Value.okWide Try.prog W .any base t v := hval0
  have hW' := hW
  obtain ⟨p, q, hA0, hV, rfl, hfz, hnd⟩ := hW
  have hA : DataW.TrodAll enc Try.prog W 0 (fun _ => true) true Try.f3.params.toList args.toList ds p := hA0
  rw [Try.params3] at hA hval
  obtain ⟨v0, vs0, d0, ds0, p0, q0, hargs, rfl, rfl, h0, r0⟩ := trodAll_cons hA
  obtain ⟨v1, vs1, d1, ds1, p1, q1, rfl, rfl, rfl, h1, r1⟩ := trodAll_cons r0
  obtain ⟨v2, vs2, d2, ds2, p2, q2, rfl, rfl, rfl, h2, r2⟩ := trodAll_cons r1
  obtain ⟨rfl, rfl, rfl⟩ := trodAll_nil r2
  obtain rfl : args = #[v0, v1, v2] := by cases args; simp_all
  obtain ⟨rfl, rfl⟩ := trodVars_none hV
  have k0 := h0
  have lt0 : ∀ x ∈ p0, x.block < W.heap.size := by obtain ⟨m, hm⟩ := k0; exact DataW.trod_lt m _ _ _ hm
  obtain ⟨av0, dt0, rp0⟩ := arg_of (hval 0 24 v0 rfl rfl) h0 tdEvalPureSaid0
  obtain ⟨x0, _, rfl⟩ := dat_op dt0
  have k1 := h1
  have lt1 : ∀ x ∈ p1, x.block < W.heap.size := by obtain ⟨m, hm⟩ := k1; exact DataW.trod_lt m _ _ _ hm
  obtain ⟨av1, dt1, rp1⟩ := arg_of (hval 1 22 v1 rfl rfl) h1 tdEvalPureSaid1
  obtain ⟨x1, rfl⟩ := dat_u32 dt1
  have k2 := h2
  have lt2 : ∀ x ∈ p2, x.block < W.heap.size := by obtain ⟨m, hm⟩ := k2; exact DataW.trod_lt m _ _ _ hm
  obtain ⟨av2, dt2, rp2⟩ := arg_of (hval 2 22 v2 rfl rfl) h2 tdEvalPureSaid2
  obtain ⟨x2, rfl⟩ := dat_u32 dt2
  clear hA0 hval0
  refine (law_calls ((lawPure_spec x0 x1 x2).mono fun r _ e => e.1) (((RepL.nil.cons rp2).cons rp1).cons rp0)).mono fun e W' ⟨he, bel⟩ => ?_
  subst he
  exact ⟨_, rfl, _, _, _, [], _, [], hW', trodAll_mk1 (shut_bool Try.underlying4 _), (trodAll_cons_mk (Below.trod laidOutEvalPureSaid (by kernel_rfl) (of_decide_eq_true (by kernel_rfl)) k0 bel lt0) (trodAll_cons_mk (Below.trod laidOutEvalPureSaid (by kernel_rfl) (of_decide_eq_true (by kernel_rfl)) k1 bel lt1) (trodAll_cons_mk (Below.trod laidOutEvalPureSaid (by kernel_rfl) (of_decide_eq_true (by kernel_rfl)) k2 bel lt2) trodAll_mk0))), rfl, bel.frame _, fun h => by cases h⟩
theorem overEvalPureSaid : Rows.evalPureRow.holds Try.pinned (OpenSpec.ofChange Rows.evalPureSpec) :=
  OpenClaim.holds_of_wide 3 Try.f3 rfl rfl rfl rfl rfl rfl rfl ⟨rfl, rfl, rfl, rfl, rfl⟩ rfl rfl rfl rfl rfl (by kernel_rfl) Try.func3 (by kernel_rfl)
    (of_decide_eq_true (by kernel_rfl)) (by unfold Func.isWrapper; first | (rw [if_pos (by decide +kernel)]; kernel_rfl) | (rw [if_neg (by decide +kernel)]; exact ⟨rfl, rfl⟩))
    (fun os started H enc _ => liftedEvalPureSaid os started H enc)
/-- The statement. -/
theorem provedEvalPureSaid : Rows.EvalPureSaid := overEvalPureSaid
end Go.Proofs.Ytjaknpophnolmaa
