/- The statement PagesPlaySaid, from the contract of its function. -/
import Derived.Test.YtknamhmjhmdikaaDatP
import Derived.Test.YtknamhmjhmdikaaK13
import Derived.Test.YtknamhmjhmdikaaRows
import Derived.WalkKit
namespace Go.Proofs.Ytknamhmjhmdikaa
open Go.ChangeShapes Go.WideShapes Go.ChangeAt Go.RowKit Go.Ab
set_option linter.unusedVariables false

theorem ownPagesPlaySaid : ownKnob Try.prog.godebug = none := by kernel_rfl
theorem laidOutPagesPlaySaid : laidOutB Try.prog = true := by kernel_rfl
theorem tdPagesPlaySaid0 : tdOf Try.prog 8 22 = some (.sl tdSp) := by kernel_rfl
set_option maxRecDepth 100000 in
theorem liftedPagesPlaySaid (os : Os) (started : os.Started) (H : Type) (enc : TypeId × Value → H) :
    ReturnsInHanded {} Try.checked os 4 .any (Rows.pagesPlaySpec.pre6 enc Try.prog Try.f4 Rows.pagesPlayRow.domain false) (Rows.pagesPlaySpec.post enc Try.prog Try.f4 false true false false) := by
  refine returnsInHanded_of_change (C := Try.checked) ownPagesPlaySaid started (by kernel_rfl) Try.func4
    (ChangeSpec.witness6 (enc := enc) (C := Try.checked) false ⟨#[], #[.slice none 0 0], []⟩ 8 (by kernel_rfl) (by kernel_rfl) (by kernel_rfl) (by kernel_rfl)) ?_
  intro W base args ds gs before hval0 hW hcnd _
  have hval : ∀ (j : Nat) t v, Try.f4.params[j]? = some t → args[j]? = some v → Value.okWide Try.prog W .any base t v := hval0
  have hW' := hW
  obtain ⟨p, q, hA0, hV, rfl, hfz, hnd⟩ := hW
  have hA : DataW.TrodAll enc Try.prog W 0 (fun _ => true) true Try.f4.params.toList args.toList ds p := hA0
  rw [Try.params4] at hA hval
  obtain ⟨v0, vs0, d0, ds0, p0, q0, hargs, rfl, rfl, h0, r0⟩ := trodAll_cons hA
  obtain ⟨rfl, rfl, rfl⟩ := trodAll_nil r0
  obtain rfl : args = #[v0] := by cases args; simp_all
  obtain ⟨rfl, rfl⟩ := trodVars_none hV
  have k0 := h0
  have lt0 : ∀ x ∈ p0, x.block < W.heap.size := by obtain ⟨m, hm⟩ := k0; exact DataW.trod_lt m _ _ _ hm
  obtain ⟨av0, dt0, rp0⟩ := arg_of (hval 0 22 v0 rfl rfl) h0 tdPagesPlaySaid0
  obtain ⟨x0, ok0, rfl⟩ := dat_sps dt0
  clear hA0 hval0
  refine (law_calls ((lawPlay_spec x0 ok0).mono fun r _ e => e.1) (RepL.nil.cons rp0)).mono fun e W' ⟨he, bel⟩ => ?_
  subst he
  exact ⟨_, rfl, _, _, _, [], _, [], hW', trodAll_mk1 (shut_bool Try.underlying4 _), (trodAll_cons_mk (Below.trod laidOutPagesPlaySaid (by kernel_rfl) (of_decide_eq_true (by kernel_rfl)) k0 bel lt0) trodAll_mk0), rfl, bel.frame _, fun h => by cases h⟩
theorem overPagesPlaySaid : Rows.pagesPlayRow.holds Try.pinned (OpenSpec.ofChange Rows.pagesPlaySpec) :=
  OpenClaim.holds_of_wide 4 Try.f4 rfl rfl rfl rfl rfl rfl rfl ⟨rfl, rfl, rfl, rfl, rfl⟩ rfl rfl rfl rfl rfl (by kernel_rfl) Try.func4 (by kernel_rfl)
    (of_decide_eq_true (by kernel_rfl)) (by unfold Func.isWrapper; first | (rw [if_pos (by decide +kernel)]; kernel_rfl) | (rw [if_neg (by decide +kernel)]; exact ⟨rfl, rfl⟩))
    (fun os started H enc _ => liftedPagesPlaySaid os started H enc)
/-- The statement. -/
theorem provedPagesPlaySaid : Rows.PagesPlaySaid := overPagesPlaySaid
end Go.Proofs.Ytknamhmjhmdikaa
