/- Contracts: clones. -/
import Derived.Test.YtecfchkmmnphdaaB9
set_option linter.unusedSimpArgs false
set_option linter.unusedVariables false
set_option maxRecDepth 10000
namespace Go.Ab
open Go.Proofs
variable {G : Glo} {h : Heap}
theorem own_new {sz : Nat} {b : Nat} (hb : h b = none) : Own sz h (.sl b 0 0 0) [] 0 (upd h b ⟨[], 0⟩) := .row b 0 0 [] [] 0 hb (by simp) (by simp)
theorem cloneP_spec (l : List (BitVec 32)) (hl : l.length ≤ 1000000000000) : Spec Try.prog G 86 [.ro (wds l) l.length] h (Is (.ro (wds l) l.length) h) := by
  refine Spec.is C86ok rfl ?_
  simp only [push_cast, simprocAttr]
  refine ⟨fun h0 => ?_, fun b hb => ?_⟩
  · have : l = [] := List.eq_nil_of_length_eq_zero h0
    subst this
    exact wkQ.own (sz := 1) .nil (by simp only [push_cast, simprocAttr]; rfl)
  · refine Own.app (own_new hb) (m := l.length) (by simp [wds]) (by omega) (by omega) fun v h1 ho => ?_
    rw [List.nil_append, Nat.zero_add] at ho
    simp only [push_cast, simprocAttr]
    exact wkQ.own ho (by simp only [push_cast, simprocAttr])
theorem cloneO_spec (l : List IOp) (hl : l.length ≤ 1000000000000) : Spec Try.prog G 87 [ops l] h (Is (ops l) h) := by
  refine Spec.is C87ok rfl ?_
  simp only [push_cast, simprocAttr]
  have hn := flat_len IOp.cells 6 l (fun x _ => IOp.len x)
  refine ⟨fun h0 => ?_, fun b hb => ?_⟩
  · have : l = [] := List.eq_nil_of_length_eq_zero h0
    subst this
    exact wkQ.own (sz := 6) .nil (by simp only [push_cast, simprocAttr]; rfl)
  · refine ⟨hn, Own.app (own_new hb) (m := l.length) hn (by omega) (by omega) fun v h1 ho => ?_⟩
    rw [List.nil_append, Nat.zero_add] at ho
    simp only [push_cast, simprocAttr]
    exact wkQ.own ho (by simp only [push_cast, simprocAttr])
theorem cloneV_spec (l : List IVl) (hl : l.length ≤ 1000000000000) : Spec Try.prog G 89 [vls l] h (fun r h' => Own 2 h r (l.flatMap IVl.cells) l.length h') := by
  refine Spec.walk C89ok rfl ?_
  simp only [push_cast, simprocAttr]
  have hn := flat_len IVl.cells 2 l (fun x _ => IVl.len x)
  refine ⟨fun h0 => ?_, fun b hb => ?_⟩
  · have : l = [] := List.eq_nil_of_length_eq_zero h0
    subst this
    exact .nil
  · refine ⟨hn, Own.app (own_new hb) (m := l.length) hn (by omega) (by omega) fun v h1 ho => ?_⟩
    rw [List.nil_append, Nat.zero_add] at ho
    simp only [push_cast, simprocAttr]
    exact ho
theorem cloneE_spec (l : List IEx) (hl : l.length ≤ 1000000000000) : Spec Try.prog G 88 [exs l] h (fun r h' => Own 5 h r (l.flatMap IEx.cells) l.length h') := by
  refine Spec.walk C88ok rfl ?_
  simp only [push_cast, simprocAttr]
  have hn := flat_len IEx.cells 5 l (fun x _ => IEx.len x)
  refine ⟨fun h0 => ?_, fun b hb => ?_⟩
  · have : l = [] := List.eq_nil_of_length_eq_zero h0
    subst this
    exact .nil
  · refine ⟨hn, Own.app (own_new hb) (m := l.length) hn (by omega) (by omega) fun v h1 ho => ?_⟩
    rw [List.nil_append, Nat.zero_add] at ho
    simp only [push_cast, simprocAttr]
    exact ho
end Go.Ab
