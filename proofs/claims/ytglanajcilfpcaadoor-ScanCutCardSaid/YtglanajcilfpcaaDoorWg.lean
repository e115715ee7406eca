/- A package-level table that is known. -/
import Derived.Test.YtglanajcilfpcaaDoorAb11
import Derived.Test.YtglanajcilfpcaaDoorH2
import Derived.Test.YtglanajcilfpcaaDoorRows
import Derived.Lib.LaidTab
import Derived.MakeChecks
import Derived.LaidMore
set_option linter.unusedVariables false
namespace Go.Ab
open Go.Proofs Go.ChangeShapes Go.WideShapes Go.ChangeAt Go.RowKit
theorem rep_tab {w : World} {O : Nat → Prop} {k : IntKind} {zs : List Int} {g : Nat} (h0 : 0 < zs.length) (hO : ¬ O g) (hc : ∀ i, i < zs.length → w.cell? ⟨g, i, none⟩ = some (.int k (zs.getD i 0))) :
    Rep w O (.cp (zs.map (.int k)) 0) (.pointer (some ⟨g, 0, none⟩)) := by
  have hb : g < w.heap.size := by
    have h := hc 0 h0
    by_cases hlt : g < w.heap.size
    · exact hlt
    · have e : w.heap[g]? = none := Array.getElem?_eq_none (Nat.not_lt.1 hlt)
      simp [World.cell?, e] at h
  refine .cp (zs.map (.int k)) 0 g 0 (fun i => .int k (zs.getD i 0)) hb hO (fun i v hv => ?_) (fun i v hv => ?_)
  · rw [List.getElem?_map] at hv
    obtain ⟨z, hz, rfl⟩ := Option.map_eq_some_iff.1 hv
    have hlt := (List.getElem?_eq_some_iff.1 hz).1
    exact ⟨by rw [Nat.zero_add]; exact hc i hlt, rfl⟩
  · rw [List.getElem?_map] at hv
    obtain ⟨z, hz, rfl⟩ := Option.map_eq_some_iff.1 hv
    have : zs.getD i 0 = z := by simp [List.getD, hz]
    rw [this]
    exact .int k z
/-- The globals, of which one is known. -/
def G1 : Glo := fun g => if g = 0 then .cp formC 0 else .any
theorem G1_gf : GF G1 := rfl
theorem law_callsG {P : Program} {w : World} {f : FuncId} {args : List AV} {vs : List Value} (hs : Spec P G1 f args noH (fun r _ => r = .bool true)) (hg : Rep w NoO (.cp formC 0) (.pointer (some ⟨0, 0, none⟩))) (hr : RepL w NoO args vs) :
    Calls P f vs.toArray w fun e w' => e = .returned (.bool true) ∧ Below w.heap.size w w' := by
  refine (hs w vs (fun b x h => by cases h) (fun g => ?_) (by rw [noH_dom]; exact hr)).mono ?_
  · by_cases e : g = 0
    · subst e; rw [G1, if_pos rfl, noH_dom]; exact hg
    · rw [G1, if_neg e]; exact .any _
  · rintro e w' ⟨v, r, h', rfl, rfl, _, h3, h4⟩
    refine ⟨by rw [rep_bool h3], ⟨h4.os, h4.tape, h4.out, h4.size, fun k hk => (h4.blk k hk rfl).2⟩⟩
def formZ : List Int := formL.map fun n : Nat => (n : Int)
theorem formZ_C : formZ.map (AV.int .i64) = formC := by simp [formZ, formC]
theorem gForms : Tryd.prog.globalNamed "mimesis/inst.forms" = some 0 := by kernel_rfl
theorem tForms : (Tryd.prog.globals[0]?).map (·.type) = some 137 := by kernel_rfl
theorem uForms : Tryd.prog.underlying 137 = some (.array 58 3) := by kernel_rfl
theorem cForms : Tryd.prog.cellsOf 137 = 58 := by kernel_rfl
theorem uInt : Tryd.prog.underlying 3 = some (.int .i64) := by kernel_rfl
theorem cInt : Tryd.prog.cellsOf 3 = 1 := by kernel_rfl
theorem forms_of {w : World} (h : laidMetH Tryd.prog [("mimesis/inst.forms", YtglanajcilfpcaaDoor.Rows.laid_mimesis_inst_forms)] w) : Rep w NoO (.cp formC 0) (.pointer (some ⟨0, 0, none⟩)) := by
  rw [MakeChecks.laidMetH_plain _ _ _ (by kernel_rfl)] at h
  have ht : Lib.TabIs Tryd.prog w "mimesis/inst.forms" .i64 formZ := Lib.tabIs_of_head gForms tForms uForms uInt cInt cForms h
  rw [← formZ_C]
  exact rep_tab (by decide) (fun h => h) fun i hi => ht.cell gForms i hi
end Go.Ab
