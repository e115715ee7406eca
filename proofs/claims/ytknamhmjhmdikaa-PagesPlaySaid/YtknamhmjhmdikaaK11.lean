/- The index: a new one; none; the example. -/
import Derived.Test.YtknamhmjhmdikaaK10
set_option linter.unusedSimpArgs false
set_option linter.unusedVariables false
set_option maxRecDepth 10000
namespace Go.Ab
open Go.Proofs
variable {G : Glo} {h : Heap}
theorem New36_spec : Spec Try.prog G 7 [] h (fun r h' => ∃ px, r = .ptr px 0 ∧ IdxAt h' px []) := by
  refine Spec.walk C7ok rfl ?_
  simp only [push_cast, simprocAttr]
  intro b1 hb1 b2 hb2 b3 hb3
  obtain ⟨n21, hb2'⟩ := upd_none hb2
  obtain ⟨n32, hb3'⟩ := upd_none hb3
  obtain ⟨n31, hb3''⟩ := upd_none hb3'
  refine ⟨b3, rfl, b1, b2, [], [], upd_same _ _ _, ?_, ?_, ?_⟩
  · exact (out_new ((upd_ne (Ne.symm n31)).trans ((upd_ne (Ne.symm n21)).trans (upd_same _ _ _))) MpI.nil).imp fun k x => by simp
  · exact (out_new ((upd_ne (Ne.symm n32)).trans (upd_same _ _ _)) MpI.nil).imp fun k x => by simp
  · intro c hc hc'
    simp only [outs, List.map_nil, List.mem_singleton] at hc hc'
    exact n21 (by rw [← hc, ← hc'])
theorem awake36_0 : Spec Try.prog G 6 [] noH (Is (.bool true) noH) := by
  refine Spec.weak (Q := fun r h' => r = .bool true) ?_ (fun r h1 e => ⟨r, noH, ⟨e, rfl⟩, lessK (fun _ _ e => by cases e)⟩)
  have hW : addP [] 1 [5, 4] = [(1, 5), (1, 4)] := by decide
  have hO : ofP [(1, 5), (1, 4)] 5 = [1] := by decide
  have hP : pgP [(1, 5), (1, 4)] 1 = [4, 5] := by decide
  have hI : (idsP [(1, 5), (1, 4)]).length = 1 := by decide
  refine Spec.walk C6ok rfl ?_
  simp only [push_cast, simprocAttr]
  refine New36_spec.mono ?_
  rintro _ h1 ⟨px, rfl, hx⟩
  simp only [push_cast, simprocAttr]
  refine (Add_spec hx (ps := [5, 4]) (by omega) (by simp [i64R]) (by simp)).mono ?_
  rintro _ h2 ⟨rfl, hx2⟩
  rw [hW] at hx2
  simp only [push_cast, simprocAttr]
  refine (Of_spec hx2 5 (by simp)).mono ?_
  rintro _ _ ⟨rfl, rfl⟩
  rw [hO]
  simp only [push_cast, simprocAttr]
  refine (Pages_spec hx2 1 (by simp)).mono ?_
  rintro _ _ ⟨rfl, rfl⟩
  rw [hP]
  have hL := Len_spec (G := G) hx2
  rw [hI] at hL
  simp only [push_cast, simprocAttr]
  refine hL.to ?_
  simp only [push_cast, simprocAttr]
theorem awake36_spec : Spec Try.prog G 6 [] h (Is (.bool true) h) := borrowP awake36_0 .nil rfl
theorem Add_nil (i : Int) (ps : AV) : Spec Try.prog G 8 [.nilp, .int .i64 i, ps] h (Is (.tup []) h) := by
  refine Spec.is C8ok rfl ?_
  simp only [push_cast, simprocAttr]
theorem Pages_nil (i : Int) : Spec Try.prog G 22 [.nilp, .int .i64 i] h (Is .nils h) := by
  refine Spec.is C22ok rfl ?_
  simp only [push_cast, simprocAttr]
theorem Of_nil (i : Int) : Spec Try.prog G 12 [.nilp, .int .i64 i] h (Is .nils h) := by
  refine Spec.is C12ok rfl ?_
  simp only [push_cast, simprocAttr]
theorem All_nil : Spec Try.prog G 14 [.nilp] h (Is .nils h) := by
  refine Spec.is C14ok rfl ?_
  simp only [push_cast, simprocAttr]
theorem Len_nil : Spec Try.prog G 16 [.nilp] h (Is (.int .i64 0) h) := by
  refine Spec.is C16ok rfl ?_
  simp only [push_cast, simprocAttr]
theorem Drop_nil (i : Int) : Spec Try.prog G 10 [.nilp, .int .i64 i] h (Is (.bool false) h) := by
  refine Spec.is C10ok rfl ?_
  simp only [push_cast, simprocAttr]
  refine (Pages_nil i).to ?_
  simp only [push_cast, simprocAttr]
  refine lpc.rel [0, 1, 5, 11, 12, 13] (fun m ρ h' => m = 0 ∧ h = h' ∧ ρ = [(0, .nilp), (1, .int .i64 i), (5, .nils), (11, .nils), (12, .int .i64 0), (13, .int .i64 0)]) ⟨_, rfl, rfl, rfl⟩ ?_
  rintro m _ _ ⟨rfl, rfl, rfl⟩
  simp only [push_cast, simprocAttr]
theorem Hit_nil : Spec Try.prog G 20 [.nilp, .nils] h (Is (.ro [] 0) h) := by
  refine Spec.weak (Q := fun r h' => r = .ro [] 0 ∧ Sub h h') ?_ (fun r h1 ⟨e, hs⟩ => ⟨r, h, ⟨e, rfl⟩, lessK hs⟩)
  refine Spec.walk C20ok rfl ?_
  simp only [push_cast, simprocAttr]
  intro d hd
  refine All_nil.to ?_
  simp only [push_cast, simprocAttr]
  refine lpc.rel [0, 1, 5, 10, 11, 12] (fun m ρ h' => m = 0 ∧ h' = Ab.upd h d (mpB #[] 0) ∧ ρ = [(0, .nilp), (1, .nils), (5, .mpp (some d)), (10, .nils), (11, .int .i64 0), (12, .int .i64 0)]) ⟨_, rfl, rfl, rfl⟩ ?_
  rintro m _ _ ⟨rfl, rfl, rfl⟩
  simp only [push_cast, simprocAttr]
  have hS : StAt (Ab.upd h d (mpB #[] 0)) d (fun _ => False) := ⟨_, _, _, upd_same _ _ _, MpI.nil, fun x => by simp⟩
  refine (setSorted_spec hS [] (by simp) (fun x hx => hx.elim)).mono fun r h' hq => ?_
  obtain ⟨rfl, rfl⟩ := zr_of (L := []) (by simp [ascL]) (fun x => by simp) hq
  simp only [push_cast, simprocAttr]
  first | exact (Sub.refl h).alloc hd | exact ⟨rfl, (Sub.refl h).alloc hd⟩
theorem lawNils_spec (i : Int) (ps : List Int) : Spec Try.prog G 5 [.int .i64 i, zr ps] h (Is (.bool true) h) := by
  have w0 : IntKind.i64.wrap 0 = 0 := by decide
  have w1 : (0 : Int) + 0 = 0 := rfl
  refine Spec.is C5ok rfl ?_
  by_cases hl : (ps.length : Int) > 20
  · simp only [push_cast, simprocAttr, hl]
    refine awake36_spec.to ?_
    simp only [push_cast, simprocAttr]
  · simp only [push_cast, simprocAttr, hl]
    refine (Add_nil _ _).to ?_
    simp only [push_cast, simprocAttr]
    refine (Drop_nil _).to ?_
    simp only [push_cast, simprocAttr]
    refine (Of_nil _).to ?_
    simp only [push_cast, simprocAttr, w0, w1]
    refine (Pages_nil _).to ?_
    simp only [push_cast, simprocAttr, w0, w1]
    refine All_nil.to ?_
    simp only [push_cast, simprocAttr, w0, w1]
    refine Hit_nil.to ?_
    simp only [push_cast, simprocAttr, w0, w1]
    refine Len_nil.to ?_
    simp only [push_cast, simprocAttr, w0, w1]
    refine awake36_spec.to ?_
    simp only [push_cast, simprocAttr, w0, w1]
end Go.Ab
