/- The blocks that are hit, by the document. -/
import Derived.Test.YtknamhmjhmdikaaK4
set_option linter.unusedSimpArgs false
set_option linter.unusedVariables false
set_option maxRecDepth 10000
namespace Go.Ab
open Go.Proofs
variable {G : Glo} {h : Heap}
theorem rhit36_spec (W : List (Int × Int)) (wt : List Bool) (hl : W.length ≤ 1000000) : Spec Try.prog G 21 [prs W, .ro (wt.map AV.bool) wt.length] h (Is (zr (hitP W wt)) h) := by
  refine Spec.is C21ok rfl ?_
  simp only [push_cast, simprocAttr]
  intro b9 hb9
  refine lpc.rel [0, 1, 5, 6] (fun m ρ h' => ∃ (k : Nat) (v : AV), m = W.length - k ∧ k ≤ W.length ∧ Own 1 h v ((((W.take k).filter (fun q => unw wt q.2)).map (·.1)).map (AV.int .i64)) (((W.take k).filter (fun q => unw wt q.2)).map (·.1)).length h' ∧
    ρ = [(0, prs W), (1, .ro (wt.map AV.bool) wt.length), (5, v), (6, .int .i64 (k : Int))]) ⟨_, 0, _, rfl, by omega, ownN hb9, rfl⟩ ?_
  rintro m _ h2 ⟨k, v, rfl, hk, hown, rfl⟩
  by_cases hk2 : k < W.length
  · obtain ⟨e0, e1, e2⟩ := prs_at W k hk2
    have hsn := fm_snoc (fun q => unw wt q.2) (·.1) W k hk2
    have hlen := fm_len (fun q => unw wt q.2) (·.1) W k
    generalize W.getD k (0, 0) = q at *
    obtain ⟨q1, q2⟩ := q
    simp only at e0 e1 hsn
    have hu : unw wt q2 = !(decide (0 ≤ q2) && decide (q2 < (wt.length : Int)) && wt.getD q2.toNat false) := rfl
    by_cases c1 : q2 < 0
    · have hu' : unw wt q2 = true := by rw [hu]; simp; omega
      rw [if_pos hu'] at hsn
      simp (disch := omega) only [push_cast, simprocAttr, wrap_i64, toNat_ofInt64, Nat.min_eq_left, Int.toNat_of_nonneg, hk2, e0, e1, c1]
      refine Own.app hown (m := 1) rfl (by omega) (by omega) fun v3 h3 ho3 => ?_
      simp (disch := omega) only [push_cast, simprocAttr, wrap_i64, toNat_ofInt64, Nat.min_eq_left, Int.toNat_of_nonneg, ho3.one]
      exact ⟨_, _, by omega, .refl _, k + 1, v3, rfl, by omega, by rw [hsn, List.map_append, List.length_append]; exact ho3, rfl⟩
    · by_cases c2 : q2 < (wt.length : Int)
      · obtain ⟨b, hb, hb'⟩ : ∃ b, wt.getD q2.toNat false = b ∧ (wt.map AV.bool)[q2.toNat]? = some (.bool b) := by
          have hlt : q2.toNat < wt.length := by omega
          exact ⟨_, rfl, by simp [List.getD_eq_getElem?_getD, hlt]⟩
        have c3 : ¬ (q2 ≥ (wt.length : Int)) := by omega
        have c4 : 0 ≤ q2 := by omega
        cases b with
        | true =>
          have hu' : unw wt q2 = false := by rw [hu, hb]; simp; omega
          rw [if_neg (by rw [hu']; simp)] at hsn
          simp (disch := omega) only [push_cast, simprocAttr, wrap_i64, toNat_ofInt64, Nat.min_eq_left, Int.toNat_of_nonneg, hk2, e0, e1, c1, c2, c3, c4, hb']
          exact ⟨_, _, by omega, .refl _, k + 1, v, rfl, by omega, by rw [hsn, List.append_nil]; exact hown, rfl⟩
        | false =>
          have hu' : unw wt q2 = true := by rw [hu, hb]; simp
          rw [if_pos hu'] at hsn
          simp (disch := omega) only [push_cast, simprocAttr, wrap_i64, toNat_ofInt64, Nat.min_eq_left, Int.toNat_of_nonneg, hk2, e0, e1, c1, c2, c3, c4, hb']
          refine Own.app hown (m := 1) rfl (by omega) (by omega) fun v3 h3 ho3 => ?_
          simp (disch := omega) only [push_cast, simprocAttr, wrap_i64, toNat_ofInt64, Nat.min_eq_left, Int.toNat_of_nonneg, ho3.one]
          exact ⟨_, _, by omega, .refl _, k + 1, v3, rfl, by omega, by rw [hsn, List.map_append, List.length_append]; exact ho3, rfl⟩
      · have hu' : unw wt q2 = true := by rw [hu]; simp; omega
        have c3 : q2 ≥ (wt.length : Int) := by omega
        rw [if_pos hu'] at hsn
        simp (disch := omega) only [push_cast, simprocAttr, wrap_i64, toNat_ofInt64, Nat.min_eq_left, Int.toNat_of_nonneg, hk2, e0, e1, c1, c2, c3]
        refine Own.app hown (m := 1) rfl (by omega) (by omega) fun v3 h3 ho3 => ?_
        simp (disch := omega) only [push_cast, simprocAttr, wrap_i64, toNat_ofInt64, Nat.min_eq_left, Int.toNat_of_nonneg, ho3.one]
        exact ⟨_, _, by omega, .refl _, k + 1, v3, rfl, by omega, by rw [hsn, List.map_append, List.length_append]; exact ho3, rfl⟩
  · obtain rfl : k = W.length := by omega
    rw [List.take_length] at hown
    have hlen := fm_len (fun q => unw wt q.2) (·.1) W W.length
    rw [List.take_length] at hlen
    simp only [push_cast, simprocAttr, hk2]
    refine wkQ.own hown ?_
    simp only [push_cast, simprocAttr]
    refine (rSorted36_spec _ (by omega)).to ?_
    simp only [push_cast, simprocAttr]
    try rfl
end Go.Ab
