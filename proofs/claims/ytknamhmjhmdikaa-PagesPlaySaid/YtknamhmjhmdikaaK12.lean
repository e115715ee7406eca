/- The law: what is added and dropped leaves any index as it was. -/
import Derived.Test.YtknamhmjhmdikaaDatP
set_option linter.unusedSimpArgs false
set_option linter.unusedVariables false
set_option maxRecDepth 10000
namespace Go.Ab
open Go.Proofs
variable {G : Glo} {h : Heap}
def ISp.zero : ISp := ⟨0, 0, [], []⟩
theorem sps_at (l : List ISp) {k : Nat} (hk : k < l.length) : (l.flatMap ISp.cells)[k * 4]? = some (.int .i64 (l.getD k ISp.zero).kind) ∧ (l.flatMap ISp.cells)[k * 4 + 1]? = some (.int .i64 (l.getD k ISp.zero).id) ∧
    (l.flatMap ISp.cells)[k * 4 + 2]? = some (zr (l.getD k ISp.zero).pages) ∧ (l.flatMap ISp.cells)[k * 4 + 3]? = some (.ro ((l.getD k ISp.zero).wt.map AV.bool) (l.getD k ISp.zero).wt.length) ∧
    partOf (l.flatMap ISp.cells) (k * 4) (some 4) = some (.agg (l.getD k ISp.zero).cells) := by
  have e0 := flat_getD ISp.cells 4 l ISp.zero ISp.len k 0 (by omega)
  have e1 := flat_getD ISp.cells 4 l ISp.zero ISp.len k 1 (by omega)
  have e2 := flat_getD ISp.cells 4 l ISp.zero ISp.len k 2 (by omega)
  have e3 := flat_getD ISp.cells 4 l ISp.zero ISp.len k 3 (by omega)
  rw [if_pos hk] at e0 e1 e2 e3
  rw [Nat.add_zero] at e0
  refine ⟨e0, e1, e2, e3, ?_⟩
  have hl : ∀ l : List ISp, (l.flatMap ISp.cells).length = l.length * 4 := by
    intro l
    induction l with
    | nil => rfl
    | cons q W ih => simp only [List.flatMap_cons, List.length_append, ih, ISp.len, List.length_cons]; omega
  have hl' := hl l
  rw [partOf_some, if_pos (by omega), flat_drop ISp.cells 4 l (fun x _ => ISp.len x) k (by omega), List.drop_eq_getElem_cons hk, List.flatMap_cons, List.take_append_of_le_length (by rw [ISp.len]; omega), List.take_of_length_le (by rw [ISp.len]; omega)]
  simp [List.getD_eq_getElem?_getD, hk]
theorem ofP_len (W : List (Int × Int)) (p : Int) : (ofP W p).length ≤ W.length := by
  have := sortU_len ((W.filter fun q => q.2 == p).map (·.1))
  have h2 := List.length_filter_le (fun q : Int × Int => q.2 == p) W
  rw [List.length_map] at this
  unfold ofP
  omega
theorem pgP_len (W : List (Int × Int)) (p : Int) : (pgP W p).length ≤ W.length := by
  have := sortU_len ((W.filter fun q => q.1 == p).map (·.2))
  have h2 := List.length_filter_le (fun q : Int × Int => q.1 == p) W
  rw [List.length_map] at this
  unfold pgP
  omega
theorem allP_len (W : List (Int × Int)) : (allP W).length ≤ W.length := by
  have := sortU_len (W.map (·.2))
  rw [List.length_map] at this
  exact this
theorem hitP_len (W : List (Int × Int)) (wt : List Bool) : (hitP W wt).length ≤ W.length := by
  have := sortU_len ((W.filter fun q => unw wt q.2).map (·.1))
  have h2 := List.length_filter_le (fun q : Int × Int => unw wt q.2) W
  rw [List.length_map] at this
  unfold hitP
  omega
theorem lawQ {F : FuncId} {args : List AV} (hs : Spec Try.prog G F args noH (fun r _ => r = .bool true)) : Spec Try.prog G F args noH (Is (.bool true) noH) :=
  hs.weak fun r h1 e => ⟨r, noH, ⟨e, rfl⟩, lessK (fun _ _ e => by cases e)⟩
def bkW (l : List ISp) (id : Int) : List (Int × Int) := l.foldl (fun W s => if s.id = id then W else addP W s.id s.pages) []
theorem bkW_snoc (l : List ISp) (id : Int) (s : ISp) : bkW (l ++ [s]) id = if s.id = id then bkW l id else addP (bkW l id) s.id s.pages := by
  unfold bkW; rw [List.foldl_append]; rfl
theorem bkW_no (id : Int) : ∀ (l : List ISp) (W : List (Int × Int)), (∀ q ∈ W, q.1 ≠ id) → ∀ q ∈ l.foldl (fun W s => if s.id = id then W else addP W s.id s.pages) W, q.1 ≠ id
  | [], W, h => h
  | s :: r, W, h => by
    refine bkW_no id r _ fun q hq => ?_
    dsimp only at hq
    split at hq
    · exact h q hq
    · rename_i hs
      rcases addP_mem.1 hq with e | ⟨e, _⟩
      · exact h q e
      · rw [e]; exact hs
theorem lawBack_spec (l : List ISp) (id : Int) (p : List Int) (hok : ∀ s ∈ l, s.ok) (hid : i64R id) (hp : ∀ x ∈ p, i64R x) : Spec Try.prog G 3 [sps l, .int .i64 id, zr p] noH (Is (.bool true) noH) := by
  refine lawQ ?_
  refine Spec.walk C3ok rfl ?_
  by_cases h1 : (l.length : Int) > 60
  · simp only [push_cast, simprocAttr, h1]
    refine awake36_spec.mono ?_
    rintro _ _ ⟨rfl, _⟩
    simp only [push_cast, simprocAttr]
  by_cases h2 : (p.length : Int) > 20
  · simp only [push_cast, simprocAttr, h1, h2]
    refine awake36_spec.mono ?_
    rintro _ _ ⟨rfl, _⟩
    simp only [push_cast, simprocAttr]
  simp only [push_cast, simprocAttr, h1, h2]
  refine New36_spec.mono ?_
  rintro _ h0 ⟨px, rfl, hx⟩
  simp only [push_cast, simprocAttr]
  refine lpc.rel [0, 1, 2, 7, 8, 9] (fun m ρ h' => ∃ k : Nat, m = l.length - k ∧ k ≤ l.length ∧ IdxAt h' px (bkW (l.take k) id) ∧ (bkW (l.take k) id).length ≤ 20 * k ∧
    ρ = [(0, sps l), (1, .int .i64 id), (2, zr p), (7, .ptr px 0), (8, prs (bkW (l.take k) id)), (9, .int .i64 (k : Int))]) ⟨_, 0, rfl, by omega, hx, by simp [bkW], rfl⟩ ?_
  rintro m _ h2' ⟨k, rfl, hk, hx2, hln, rfl⟩
  by_cases hk2 : k < l.length
  · obtain ⟨e0, e1, e2, e3, _⟩ := sps_at l hk2
    have hs := hok _ (getD_in (d := ISp.zero) hk2)
    have hsn := bkW_snoc (l.take k) id (l.getD k ISp.zero)
    rw [← take_snoc l ISp.zero hk2] at hsn
    generalize l.getD k ISp.zero = s at *
    by_cases h3 : (s.pages.length : Int) > 20
    · simp (disch := omega) only [push_cast, simprocAttr, wrap_i64, toNat_ofInt64, Nat.min_eq_left, Int.toNat_of_nonneg, hk2, e0, e1, e2, e3, h3]
      refine awake36_spec.mono ?_
      rintro _ _ ⟨rfl, _⟩
      simp only [push_cast, simprocAttr]
    · by_cases h4 : s.id = id
      · rw [if_pos h4] at hsn
        simp (disch := omega) only [push_cast, simprocAttr, wrap_i64, toNat_ofInt64, Nat.min_eq_left, Int.toNat_of_nonneg, hk2, e0, e1, e2, e3, h3, h4]
        exact ⟨_, _, by omega, .refl _, k + 1, rfl, by omega, by rw [hsn]; exact hx2, by rw [hsn]; omega, by rw [hsn]; rfl⟩
      · rw [if_neg h4] at hsn
        have hln2 := addP_len (i := s.id) (ps := s.pages) (W := bkW (l.take k) id)
        simp (disch := omega) only [push_cast, simprocAttr, wrap_i64, toNat_ofInt64, Nat.min_eq_left, Int.toNat_of_nonneg, hk2, e0, e1, e2, e3, h3, h4]
        refine (Add_spec hx2 hs.1 hs.2 (by omega)).mono ?_
        rintro _ h3' ⟨rfl, hx3⟩
        simp (disch := omega) only [push_cast, simprocAttr, wrap_i64, toNat_ofInt64, Nat.min_eq_left, Int.toNat_of_nonneg, hk2, e0, e1, e2, e3, h3, h4]
        refine (rAdd36_spec _ _ _ (by omega) (by omega)).mono ?_
        rintro _ h4' ⟨rfl, rfl⟩
        simp (disch := omega) only [push_cast, simprocAttr, wrap_i64, toNat_ofInt64, Nat.min_eq_left, Int.toNat_of_nonneg, hk2, e0, e1, e2, e3, h3, h4]
        exact ⟨_, _, by omega, .refl _, k + 1, rfl, by omega, by rw [hsn]; exact hx3, by rw [hsn]; omega, by rw [hsn]; rfl⟩
  · obtain rfl : k = l.length := by omega
    rw [List.take_length] at hx2 hln ⊢
    have hno := bkW_no id l [] (by simp)
    rw [show l.foldl (fun W s => if s.id = id then W else addP W s.id s.pages) [] = bkW l id from rfl] at hno
    generalize bkW l id = W at *
    have hln2 := addP_len (i := id) (ps := p) (W := W)
    have hm1 : decide (0 < (pgP (addP W id p) id).length) = decide ((p.length : Int) > 0) := by
      rw [decide_eq_decide]
      constructor
      · intro h
        obtain ⟨x, hx⟩ := List.exists_mem_of_length_pos h
        rw [pgP_mem, addP_mem] at hx
        rcases hx with hx | ⟨_, hx⟩
        · exact absurd rfl (hno _ hx)
        · have := List.length_pos_of_mem hx; omega
      · intro h
        obtain ⟨x, hx⟩ := List.exists_mem_of_length_pos (l := p) (by omega)
        exact List.length_pos_of_mem ((pgP_mem (W := addP W id p) (i := id) (x := x)).2 (addP_mem.2 (.inr ⟨rfl, hx⟩)))
    have hm2 : decide (0 < (pgP (dropP (addP W id p) id) id).length) = false := by
      rw [decide_eq_false_iff_not]
      intro h
      obtain ⟨x, hx⟩ := List.exists_mem_of_length_pos h
      rw [pgP_mem, dropP_mem] at hx
      exact hx.2 rfl
    have hdl := List.length_filter_le (fun q : Int × Int => q.1 != id) (addP W id p)
    have hdl : (dropP (addP W id p) id).length ≤ (addP W id p).length := hdl
    simp only [push_cast, simprocAttr, hk2]
    refine (Add_spec hx2 hid hp (by omega)).mono ?_
    rintro _ g1 ⟨rfl, y1⟩
    simp only [push_cast, simprocAttr]
    refine (Drop_spec y1 id (by omega)).mono ?_
    rintro _ g2 ⟨rfl, y2⟩
    rw [hm1]
    have hbb : (decide ((p.length : Int) > 0) != decide ((p.length : Int) > 0)) = false := by simp
    simp only [push_cast, simprocAttr, hbb]
    refine (Drop_spec y2 id (by omega)).mono ?_
    rintro _ g3 ⟨rfl, y3⟩
    rw [hm2]
    have y4 : IdxAt g3 px W := y3.of_mem fun q => by
      rw [dropP_mem, dropP_mem, addP_mem]
      constructor
      · rintro ⟨⟨h | h, h5⟩, h6⟩
        · exact h
        · exact absurd h.1 h5
      · intro h; exact ⟨⟨.inl h, hno q h⟩, hno q h⟩
    simp only [push_cast, simprocAttr]
    refine lpc.rel [2, 7, 8, 10] (fun m ρ h' => ∃ k : Nat, m = p.length - k ∧ k ≤ p.length ∧ IdxAt h' px W ∧ ρ = [(2, zr p), (7, .ptr px 0), (8, prs W), (10, .int .i64 (k : Int))]) ⟨_, 0, rfl, by omega, y4, rfl⟩ ?_
    rintro m _ g4 ⟨k, rfl, hk, y5, rfl⟩
    by_cases hk3 : k < p.length
    · have e1 := zr_at p hk3
      generalize p.getD k 0 = q at *
      simp (disch := omega) only [push_cast, simprocAttr, wrap_i64, toNat_ofInt64, Nat.min_eq_left, Int.toNat_of_nonneg, hk3, e1]
      refine (Of_spec y5 q (by omega)).mono ?_
      rintro _ _ ⟨rfl, rfl⟩
      simp (disch := omega) only [push_cast, simprocAttr, wrap_i64, toNat_ofInt64, Nat.min_eq_left, Int.toNat_of_nonneg, hk3, e1]
      refine (rOf36_spec W q (by omega)).mono ?_
      rintro _ _ ⟨rfl, rfl⟩
      simp (disch := omega) only [push_cast, simprocAttr, wrap_i64, toNat_ofInt64, Nat.min_eq_left, Int.toNat_of_nonneg, hk3, e1]
      refine (sameInts_spec (ofP W q) (ofP W q) (by have := ofP_len W q; omega)).mono ?_
      rintro _ _ ⟨rfl, rfl⟩
      simp (disch := omega) only [push_cast, simprocAttr, wrap_i64, toNat_ofInt64, Nat.min_eq_left, Int.toNat_of_nonneg, hk3, e1]
      exact ⟨_, _, by omega, .refl _, k + 1, rfl, by omega, y5, rfl⟩
    · obtain rfl : k = p.length := by omega
      simp only [push_cast, simprocAttr, hk3]
      refine (All_spec y5 (by omega)).to ?_
      simp only [push_cast, simprocAttr]
      refine (rAll36_spec W (by omega)).to ?_
      simp only [push_cast, simprocAttr]
      refine (sameInts_spec (allP W) (allP W) (by have := allP_len W; omega)).to ?_
      simp only [push_cast, simprocAttr]
      refine (Len_spec y5).to ?_
      simp only [push_cast, simprocAttr]
      refine (rIds36_spec W (by omega)).to ?_
      simp only [push_cast, simprocAttr]
      refine awake36_spec.to ?_
      simp only [push_cast, simprocAttr]
end Go.Ab
