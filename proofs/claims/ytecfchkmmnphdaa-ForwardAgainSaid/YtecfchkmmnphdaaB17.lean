/- The laws of forward: the example. -/
import Derived.Test.YtecfchkmmnphdaaB16
set_option linter.unusedSimpArgs false
set_option linter.unusedVariables false
set_option maxRecDepth 10000
namespace Go.Ab
open Go.Proofs
variable {G : Glo} {h : Heap}
theorem Spec.pre {P : Program} {f : FuncId} {a a' : AV} {h h1 : Heap} {Q : AV → Heap → Prop} (hl : Le a h a' h1) (hs : Spec P G f [a'] h1 Q) : Spec P G f [a] h Q := by
  intro w vs k1 k2 k3
  match vs, k3 with
  | [v], k3 =>
    obtain ⟨x, y, z⟩ := hl w v k1 (k3.2 0 a v rfl rfl)
    have hk : Keeps w h.dom w h1.dom := ⟨Nat.le_refl _, fun b _ hn => ⟨fun hd => hd (z b (Classical.not_not.1 hn)), rfl⟩⟩
    refine (hs w [v] x (k2.keep hk) (.cons y .nil)).mono ?_
    rintro e w' ⟨v', r, h', he, q, m1, m2, m3⟩
    exact ⟨v', r, h', he, q, m1, m2, ⟨m3.size, fun b hb hn => m3.blk b hb (z b hn), m3.os, m3.tape, m3.out⟩⟩
  | [], k3 => have := k3.1; simp at this
  | _ :: _ :: _, k3 => have := k3.1; simp at this
/-- What is known by one is known by the other. -/
def VLe (a a' : AV) : Prop := ∀ (w : World) (O : Nat → Prop) (v : Value), Rep w O a v → Rep w O a' v
theorem VLe.refl (a : AV) : VLe a a := fun _ _ _ h => h
theorem VLe.nils : VLe .nils (.ro [] 0) := fun _ _ _ h => by rw [rep_nils h]; exact .roe none 0
inductive VLs : List AV → List AV → Prop
  | nil : VLs [] []
  | cons {a a' : AV} {l l' : List AV} (h : VLe a a') (hl : VLs l l') : VLs (a :: l) (a' :: l')
theorem VLs.refl (l : List AV) : VLs l l := by
  induction l with
  | nil => exact .nil
  | cons a l ih => exact .cons (VLe.refl a) ih
theorem VLs.get {l l' : List AV} (h : VLs l l') : ∀ (i : Nat) (v' : AV), l'[i]? = some v' → ∃ v, l[i]? = some v ∧ VLe v v' := by
  induction h with
  | nil => intro i v' h; simp at h
  | cons h _ ih =>
    intro i v' hv
    cases i with
    | zero => simp at hv; subst hv; exact ⟨_, rfl, h⟩
    | succ i => exact ih i v' (by simpa using hv)
theorem VLe.ro {l l' : List AV} {n : Nat} (h : VLs l l') : VLe (.ro l n) (.ro l' n) := by
  intro w O v hr
  cases hr with
  | roe a cap => cases h; exact .roe a cap
  | ro _ _ cap b o cs hlc hb hO hc hr =>
    refine .ro l' n cap b o cs hlc hb hO (fun i v' hv => ?_) (fun i v' hv => ?_)
    · obtain ⟨v, e, _⟩ := h.get i v' hv; exact hc i v e
    · obtain ⟨v, e, k⟩ := h.get i v' hv; exact k _ _ _ (hr i v e)
theorem VLe.cp {l l' : List AV} {n : Nat} (h : VLs l l') : VLe (.cp l n) (.cp l' n) := by
  intro w O v hr
  cases hr with
  | cp _ _ b o cs hb hO hc hr =>
    refine .cp l' n b o cs hb hO (fun i v' hv => ?_) (fun i v' hv => ?_)
    · obtain ⟨v, e, _⟩ := h.get i v' hv; exact hc i v e
    · obtain ⟨v, e, k⟩ := h.get i v' hv; exact k _ _ _ (hr i v e)
theorem le_v {a a' : AV} {h : Heap} (hv : VLe a a') : Le a h a' h := fun w v hw hr => ⟨hw, hv w _ v hr, fun _ e => e⟩
def W42 : IBk := ⟨[0], [⟨1, 0, 0, 1, 0, 0⟩, ⟨1, 0, 0, 2, 0, 0⟩, ⟨5, 0, 1, 18, 0, 0⟩, ⟨4, 0, 0, 13, 0, 0⟩], [⟨0, 0, -1, 1, []⟩, ⟨1, 0, -1, 4, [⟨3, 3⟩]⟩], 1⟩
theorem W42_check : W42.check = 0 := by decide
theorem W42_fw : W42.fw = ⟨[0], [⟨1, 0, 0, 1, 0, 0⟩, ⟨1, 0, 0, 2, 0, 0⟩, ⟨5, 0, 1, 18, 0, 0⟩], [⟨0, 0, -1, 1, []⟩, ⟨1, 0, -1, 4, [⟨3, 1⟩]⟩], 1⟩ := by decide
theorem W42_wf : W42.wf := by
  refine ⟨by decide, by decide, by decide, ?_, by decide, by decide, by decide, ?_⟩ <;> decide
theorem awake42_spec : Spec Try.prog G 35 [] h (Is (.bool true) h) := by
  refine Spec.is C35ok rfl ?_
  simp only [push_cast, simprocAttr]
  intro b hb
  refine Spec.pre (a' := bkP W42) (h1 := h) (le_trans (Le.box hb) (le_v (VLe.cp ?_))) ?_
  · exact .cons (VLe.refl _) (.cons (VLe.refl _) (.cons (VLe.ro (.cons (VLe.refl _) (.cons (VLe.refl _) (.cons (VLe.refl _) (.cons (VLe.refl _) (.cons VLe.nils (VLs.refl _))))))) (VLs.refl _)))
  · refine (Do_spec W42 W42_wf W42_check).to ?_
    rw [W42_fw]
    have e1 : ([⟨0, 0#32, -1, 1, []⟩, ⟨1, 0#32, -1, 4, [⟨3, 1⟩]⟩].flatMap IEx.cells)[9]? = some (vls [⟨3, 1⟩]) := rfl
    have e2 : ([⟨3, 1⟩].flatMap IVl.cells)[1]? = some (.int .i64 1) := rfl
    simp only [push_cast, simprocAttr, e1, e2]
end Go.Ab
