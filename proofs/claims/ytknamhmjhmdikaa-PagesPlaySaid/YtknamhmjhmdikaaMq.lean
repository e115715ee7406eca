/- Maps whose keys are whole numbers, as the library's contracts have them. -/
import Derived.Test.YtknamhmjhmdikaaMp
import Derived.Maps.Own
import Derived.Maps.Keyed
namespace Go.Ab
open Go.Maps Go.WideElems
/-- Elements that are not looked at. -/
def R0 {H : Type} : Value → Option (DataW H × List MemPlace) := fun _ => some (.lit (.bool true), [])
def dOf {H : Type} (P : Program) (k : TypeId) (es : Array MapEntry) : DataW H := .map ((es.toList.map (WideElems.rg P k R0)).foldr DataW.insert [])
theorem wf64 {n : Int} : (Lit.int .i64 n).wf = true ↔ -9223372036854775808 ≤ n ∧ n < 9223372036854775808 := by
  have e1 : IntKind.i64.min = -9223372036854775808 := by decide
  have e2 : IntKind.i64.max = 9223372036854775807 := by decide
  simp only [Lit.wf, e1, e2, Bool.and_eq_true, decide_eq_true_eq]
  omega
def numOf : Lit → Int
  | .int _ a => a
  | _ => 0
theorem MpI.rdd {H : Type} {P : Program} {k : TypeId} (hk : P.underlying k = some (.int .i64)) {es : Array MapEntry} {t : Nat} {m : List (Int × Value)} (hm : MpI es t m) (x : MapEntry) (hx : x ∈ es.toList) :
    ∃ n, x.key = .int .i64 n ∧ (∃ p ∈ m, p.1 = n) ∧ rd (H := H) P k R0 x = some (.int .i64 n, .lit (.bool true)) := by
  have : x.key ∈ es.toList.map (·.key) := List.mem_map.2 ⟨x, hx, rfl⟩
  rw [hm.keys] at this
  obtain ⟨p, hp, e⟩ := List.mem_map.1 this
  refine ⟨p.1, e.symm, ⟨p, hp, rfl⟩, ?_⟩
  have hw : (Lit.int .i64 p.1).wf = true := by
    have := hm.rg p hp
    exact wf64.2 this
  obtain ⟨key, val, born⟩ := x
  cases e
  exact rd_mk (yv := (.lit (.bool true), [])) (keyOf_int_mk hk hw) rfl
theorem MpI.owns {H : Type} {P : Program} {k : TypeId} (hk : P.underlying k = some (.int .i64)) {es : Array MapEntry} {t : Nat} {m : List (Int × Value)} (hm : MpI es t m) (hl : m.length ≤ maxLen) {w : World} {b : Nat} (hb : w.heap[b]? = some (.map es t)) :
    w.ownsMap (H := H) P k R0 b m.length (dOf P k es) :=
  ⟨es, t, hb, ⟨by rw [hm.size]; exact hl, hm.st, fun x hx => by obtain ⟨n, _, _, h⟩ := hm.rdd hk x hx; exact ⟨_, h⟩⟩, by rw [hm.size]; exact Nat.le_refl _, rfl⟩
theorem MpI.dkeys {H : Type} {P : Program} {k : TypeId} (hk : P.underlying k = some (.int .i64)) {es : Array MapEntry} {t : Nat} {m : List (Int × Value)} (hm : MpI es t m) :
    (((es.toList.map (WideElems.rg (H := H) P k R0)).foldr DataW.insert []).map fun p => numOf p.1).Perm (m.map (·.1)) := by
  refine ((WideShapes.sorted_perm _).map _).trans ?_
  rw [List.map_map]
  have : es.toList.map ((fun p : Lit × DataW H => numOf p.1) ∘ WideElems.rg P k R0) = m.map (·.1) := by
    have h1 : es.toList.map ((fun p : Lit × DataW H => numOf p.1) ∘ WideElems.rg P k R0) = es.toList.map fun e => (match e.key with | .int _ n => n | _ => 0) := by
      refine List.map_congr_left fun x hx => ?_
      obtain ⟨n, e, _, h⟩ := hm.rdd (H := H) hk x hx
      simp only [Function.comp_apply, rg_of h, numOf, e]
    have h2 := congrArg (List.map fun v : Value => match v with | .int _ n => n | _ => 0) hm.keys
    rw [List.map_map, List.map_map] at h2
    rw [h1]
    exact h2
  rw [this]
/-- What a contract of the library gives back, as a list. -/
theorem MpI.of_fit {H : Type} {P : Program} {k : TypeId} (hk : P.underlying k = some (.int .i64)) {es : Array MapEntry} {t : Nat} (F : Fit (H := H) P k R0 es t) : ∃ m, MpI es t m := by
  have h1 : ∀ x ∈ es.toList, ∃ n, x.key = Value.int .i64 n ∧ -9223372036854775808 ≤ n ∧ n < 9223372036854775808 := by
    intro x hx
    obtain ⟨y, hy⟩ := F.reads x hx
    have h := rd_key hy
    cases hkx : x.key <;> rw [hkx] at h <;> simp [keyOf, hk, mapKey] at h
    rename_i q a
    obtain ⟨⟨rfl, hw⟩, _⟩ := h
    refine ⟨a, rfl, ?_⟩
    exact wf64.1 hw
  refine ⟨es.toList.map fun e => ((match e.key with | .int _ n => n | _ => 0), e.val), ?_, fun p hp => ?_, F.stamped⟩
  · rw [List.map_map]
    refine List.map_congr_left fun x hx => ?_
    obtain ⟨n, e, _⟩ := h1 x hx
    simp only [Function.comp_apply, e]
  · obtain ⟨x, hx, rfl⟩ := List.mem_map.1 hp
    obtain ⟨n, e, h⟩ := h1 x hx
    simp only [e]
    exact h
end Go.Ab
