/- The statement PagesBackSaid, from the contract of its function. -/
import Derived.Test.YtknamhmjhmdikaaDatP
import Derived.Test.YtknamhmjhmdikaaK12
import Derived.Test.YtknamhmjhmdikaaRows
import Derived.WalkKit
namespace Go.Proofs.Ytknamhmjhmdikaa
open Go.ChangeShapes Go.WideShapes Go.ChangeAt Go.RowKit Go.Ab
set_option linter.unusedVariables false

theorem ownPagesBackSaid : ownKnob Try.prog.godebug = none := by kernel_rfl
theorem laidOutPagesBackSaid : laidOutB Try.prog = true := by kernel_rfl
theorem tdPagesBackSaid0 : tdOf Try.prog 8 22 = some (.sl tdSp) := by kernel_rfl
theorem tdPagesBackSaid1 : tdOf Try.prog 8 3 = some (.i .i64) := by kernel_rfl
theorem tdPagesBackSaid2 : tdOf Try.prog 8 23 = some (.sl (.i .i64)) := by kernel_rfl
set_option maxRecDepth 100000 in
theorem liftedPagesBackSaid (os : Os) (started : os.Started) (H : Type) (enc : TypeId × Value → H) :
    ReturnsInHanded {} Try.checked os 3 .any (Rows.pagesBackSpec.pre6 enc Try.prog Try.f3 Rows.pagesBackRow.domain false) (Rows.pagesBackSpec.post enc Try.prog Try.f3 false true false false) := by
  refine returnsInHanded_of_change (C := Try.checked) ownPagesBackSaid started (by kernel_rfl) Try.func3
    (ChangeSpec.witness6 (enc := enc) (C := Try.checked) false ⟨#[], #[.slice none 0 0, .int .i64 0, .slice none 0 0], []⟩ 8 (by kernel_rfl) (by kernel_rfl) (by kernel_rfl) (by kernel_rfl)) ?_
  intro W base args ds gs before hval0 hW hcnd _
  have hval : ∀ (j : Nat) t v, Try.f3.params[j]? = some t → args[j]? = some v → Value.okWide Try.prog W .any base t v := hval0
  have hW' := hW
  obtain ⟨p, q, hA0, hV, rfl, hfz, hnd⟩ := hW
  have hA : DataW.TrodAll enc Try.prog W 0 (fun _ => true) true Try.f3.params.toList args.toList ds p := hA0
  rw [Try.params3] at hA hval
  obtain ⟨v0, vs0, d0, ds0, p0, q0, hargs, rfl, rfl, h0, r0⟩ := trodAll_cons hA
  obtain ⟨v1, vs1, d1, ds1, p1, q1, rfl, rfl, rfl, h1, r1⟩ := trodAll_cons r0
  obtain ⟨v2, vs2, d2, ds2, p2, q2, rfl, rfl, rfl, h2, r2⟩ := trodAll_cons r1
  obtain ⟨rfl, rfl, rfl⟩ := trodAll_nil r2
  obtain rfl : args = #[v0, v1, v2] := by cases args; simp_all
  obtain ⟨rfl, rfl⟩ := trodVars_none hV
  have k0 := h0
  have lt0 : ∀ x ∈ p0, x.block < W.heap.size := by obtain ⟨m, hm⟩ := k0; exact DataW.trod_lt m _ _ _ hm
  obtain ⟨av0, dt0, rp0⟩ := arg_of (hval 0 22 v0 rfl rfl) h0 tdPagesBackSaid0
  obtain ⟨x0, ok0, rfl⟩ := dat_sps dt0
  have k1 := h1
  have lt1 : ∀ x ∈ p1, x.block < W.heap.size := by obtain ⟨m, hm⟩ := k1; exact DataW.trod_lt m _ _ _ hm
  obtain ⟨av1, dt1, rp1⟩ := arg_of (hval 1 3 v1 rfl rfl) h1 tdPagesBackSaid1
  obtain ⟨x1, ok1, rfl⟩ := dat_n dt1
  have k2 := h2
  have lt2 : ∀ x ∈ p2, x.block < W.heap.size := by obtain ⟨m, hm⟩ := k2; exact DataW.trod_lt m _ _ _ hm
  obtain ⟨av2, dt2, rp2⟩ := arg_of (hval 2 23 v2 rfl rfl) h2 tdPagesBackSaid2
  obtain ⟨x2, ok2, rfl⟩ := dat_zs dt2
  clear hA0 hval0
  refine (law_calls ((lawBack_spec x0 x1 x2 ok0 ok1 ok2).mono fun r _ e => e.1) (((RepL.nil.cons rp2).cons rp1).cons rp0)).mono fun e W' ⟨he, bel⟩ => ?_
  subst he
  exact ⟨_, rfl, _, _, _, [], _, [], hW', trodAll_mk1 (shut_bool Try.underlying4 _), (trodAll_cons_mk (Below.trod laidOutPagesBackSaid (by kernel_rfl) (of_decide_eq_true (by kernel_rfl)) k0 bel lt0) (trodAll_cons_mk (Below.trod laidOutPagesBackSaid (by kernel_rfl) (of_decide_eq_true (by kernel_rfl)) k1 bel lt1) (trodAll_cons_mk (Below.trod laidOutPagesBackSaid (by kernel_rfl) (of_decide_eq_true (by kernel_rfl)) k2 bel lt2) trodAll_mk0))), rfl, bel.frame _, fun h => by cases h⟩
theorem overPagesBackSaid : Rows.pagesBackRow.holds Try.pinned (OpenSpec.ofChange Rows.pagesBackSpec) :=
  OpenClaim.holds_of_wide 3 Try.f3 rfl rfl rfl rfl rfl rfl rfl ⟨rfl, rfl, rfl, rfl, rfl⟩ rfl rfl rfl rfl rfl (by kernel_rfl) Try.func3 (by kernel_rfl)
    (of_decide_eq_true (by kernel_rfl)) (by unfold Func.isWrapper; first | (rw [if_pos (by decide +kernel)]; kernel_rfl) | (rw [if_neg (by decide +kernel)]; exact ⟨rfl, rfl⟩))
    (fun os started H enc _ => liftedPagesBackSaid os started H enc)
/-- The statement. -/
theorem provedPagesBackSaid : Rows.PagesBackSaid := overPagesBackSaid
end Go.Proofs.Ytknamhmjhmdikaa
