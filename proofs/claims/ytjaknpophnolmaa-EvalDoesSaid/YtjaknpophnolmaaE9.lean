/- The laws of eval: the example, and the values of operations. -/
import Derived.Test.YtjaknpophnolmaaE8
import Derived.Test.YtjaknpophnolmaaLo
set_option linter.unusedSimpArgs false
set_option linter.unusedVariables false
set_option maxRecDepth 10000
namespace Go.Ab
open Go.Proofs
variable {G : Glo} {h : Heap}
theorem Spec.preN {P : Program} {f : FuncId} {a a' : AV} {r : List AV} {h h1 : Heap} {Q : AV → Heap → Prop} (hl : Le a h a' h1) (hs : Spec P G f (a' :: r) h1 Q) : Spec P G f (a :: r) h Q := by
  intro w vs k1 k2 k3
  match vs, k3 with
  | v :: s, k3 =>
    obtain ⟨x, y, z⟩ := hl w v k1 (k3.2 0 a v rfl rfl)
    have hk : Keeps w h.dom w h1.dom := ⟨Nat.le_refl _, fun b _ hn => ⟨fun hd => hd (z b (Classical.not_not.1 hn)), rfl⟩⟩
    have hr : RepL w h.dom r s := ⟨by have := k3.1; simpa using this, fun i a b h1 h2 => k3.2 (i + 1) a b (by simpa using h1) (by simpa using h2)⟩
    refine (hs w (v :: s) x (k2.keep hk) (.cons y (hr.keep hk))).mono ?_
    rintro e w' ⟨v', r, h', he, q, m1, m2, m3⟩
    exact ⟨v', r, h', he, q, m1, m2, ⟨m3.size, fun b hb hn => m3.blk b hb (z b hn), m3.os, m3.tape, m3.out⟩⟩
  | [], k3 => have := k3.1; simp at this
def W24 : IBk := ⟨[0], [⟨1, 0, 0, 1, 0, 0⟩, ⟨2, 0, 0, 4, 0, 0⟩, ⟨3, 0, 1, 28, 0, 0⟩], [⟨1, 4, -1, 4, [⟨1, 2⟩]⟩], 0⟩
theorem W24_check : W24.check = 0 := by decide
theorem W24_wf : W24.wf := by
  refine ⟨by decide, by decide, by decide, ?_, by decide, by decide, by decide, ?_⟩ <;> decide
def G24 : List (BitVec 32) := [0, 5, 0, 0, 0, 0, 0, 0, 0, 0, 0, 0, 0, 0, 0, 0, 0, 0, 0, 0, 0, 0, 0, 0, 0, 0, 0, 0, 0, 0, 0, 0]
def O24 : List (BitVec 32) := [0, 9, 0, 0, 0, 0, 0, 0, 0, 0, 0, 0, 0, 0, 0, 0, 0, 0, 0, 0, 0, 0, 0, 0, 0, 0, 0, 0, 0, 0, 0, 0]
theorem W24_out (M : IRam) : W24.outOf G24 M = outC O24 4 1 4 0 := by rfl
theorem awake24_spec : Spec Try.prog G 7 [] h (Is (.bool true) h) := by
  refine Spec.is C7ok rfl ?_
  simp only [push_cast, simprocAttr]
  refine (New_spec 64 (by decide)).mono ?_
  rintro _ H ⟨l, rfl, hr, hnew, hold⟩
  simp only [push_cast, simprocAttr]
  intro c hc
  refine Spec.preN (a' := bkP W24) (Le.box hc) ?_
  refine (Do_right (regs := G24) hr W24_wf W24_check rfl (by decide)).mono ?_
  rintro _ H2 ⟨rfl, hr2, hold2⟩
  rw [W24_out]
  simp only [push_cast, simprocAttr]
  intro c4 hc4
  have o1 : (outC O24 4#32 1 4 0)[1]? = some (.int .u32 9) := rfl
  have o32 : (outC O24 4#32 1 4 0)[32]? = some (.int .u32 4) := rfl
  have o33 : (outC O24 4#32 1 4 0)[33]? = some (.int .i64 1) := rfl
  have o34 : (outC O24 4#32 1 4 0)[34]? = some (.int .i64 4) := rfl
  have ol : (outC O24 4#32 1 4 0).length = 36 := rfl
  have op := oc_put36 (regs := O24) (pc := 4#32) (done := 1) (why := 4) (exit := 0) rfl
  rw [era_none hc4]
  simp only [push_cast, simprocAttr, op, o1, o32, o33, o34, ol]
  intro d x hd
  have hn : ¬ l.has d := fun e => by rw [hnew d e] at hd; cases hd
  rw [hold2 d hn, hold d hn]
  exact hd
theorem lawPure_spec (o : IOp) (a b : BitVec 32) : Spec Try.prog G 3 [.agg o.cells, .int .u32 a.toNat, .int .u32 b.toNat] h (Is (.bool true) h) := by
  have hP := Pure_spec (G := G) (h := h) o a b
  by_cases h2 : o.code = 2
  · have hN : pureN o a b = (o.imm, true) := by rw [pureN, if_pos h2]
    rw [hN] at hP
    refine Spec.is C3ok rfl ?_
    simp only [push_cast, simprocAttr]
    refine hP.to ?_
    simp only [push_cast, simprocAttr, h2]
    refine awake24_spec.to ?_
    simp only [push_cast, simprocAttr]
  · by_cases h3 : o.code = 3
    · cases hr : reckonsN o.imm.toNat with
      | true =>
        have hN : pureN o a b = (reckN o.imm.toNat a b, true) := by rw [pureN, if_neg h2, if_pos h3, if_pos hr]
        have hR := rReckons_spec (G := G) (h := h) o.imm.toNat
        rw [hr] at hR
        rw [hN] at hP
        refine Spec.is C3ok rfl ?_
        simp only [push_cast, simprocAttr]
        refine hP.to ?_
        simp only [push_cast, simprocAttr, h3]
        refine hR.to ?_
        simp only [push_cast, simprocAttr, h3]
        refine (Reckon_spec o.imm.toNat a b hr).to ?_
        simp only [push_cast, simprocAttr]
        refine awake24_spec.to ?_
        simp only [push_cast, simprocAttr]
      | false =>
        have hN : pureN o a b = (0, false) := by rw [pureN, if_neg h2, if_pos h3, if_neg (by rw [hr]; simp)]
        have hR := rReckons_spec (G := G) (h := h) o.imm.toNat
        rw [hr] at hR
        rw [hN] at hP
        refine Spec.is C3ok rfl ?_
        simp only [push_cast, simprocAttr]
        refine hP.to ?_
        simp only [push_cast, simprocAttr, h3]
        refine hR.to ?_
        simp only [push_cast, simprocAttr, h3]
        refine awake24_spec.to ?_
        simp only [push_cast, simprocAttr]
    · have hN : pureN o a b = (0, false) := by rw [pureN, if_neg h2, if_neg h3]
      rw [hN] at hP
      refine Spec.is C3ok rfl ?_
      simp only [push_cast, simprocAttr]
      refine hP.to ?_
      simp only [push_cast, simprocAttr, h2, h3]
      refine awake24_spec.to ?_
      simp only [push_cast, simprocAttr]
end Go.Ab
