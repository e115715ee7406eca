/- The document's answers about pairs: rising lists. -/
import Derived.Test.YtknamhmjhmdikaaK3
set_option linter.unusedSimpArgs false
set_option linter.unusedVariables false
set_option maxRecDepth 10000
namespace Go.Ab
open Go.Proofs
variable {G : Glo} {h : Heap}
theorem fm_snoc (c : Int × Int → Bool) (f : Int × Int → Int) (W : List (Int × Int)) (k : Nat) (hk : k < W.length) : ((W.take (k + 1)).filter c).map f = ((W.take k).filter c).map f ++ (if c (W.getD k (0, 0)) then [f (W.getD k (0, 0))] else []) := by
  rw [take_snoc W (0, 0) hk, List.filter_append, List.map_append]
  congr 1
  generalize W.getD k (0, 0) = q
  by_cases e : c q = true <;> simp [List.filter_cons, e]
theorem fm_len (c : Int × Int → Bool) (f : Int × Int → Int) (W : List (Int × Int)) (k : Nat) : (((W.take k).filter c).map f).length ≤ W.length := by
  rw [List.length_map]
  exact Nat.le_trans (List.length_filter_le _ _) (by rw [List.length_take]; omega)
theorem rOf36_spec (W : List (Int × Int)) (p : Int) (hl : W.length ≤ 1000000) : Spec Try.prog G 13 [prs W, .int .i64 p] h (Is (zr (ofP W p)) h) := by
  refine Spec.is C13ok rfl ?_
  simp only [push_cast, simprocAttr]
  intro b9 hb9
  refine lpc.rel [0, 1, 5, 6] (fun m ρ h' => ∃ (k : Nat) (v : AV), m = W.length - k ∧ k ≤ W.length ∧ Own 1 h v ((((W.take k).filter (fun q => q.2 == p)).map (·.1)).map (AV.int .i64)) (((W.take k).filter (fun q => q.2 == p)).map (·.1)).length h' ∧
    ρ = [(0, prs W), (1, .int .i64 p), (5, v), (6, .int .i64 (k : Int))]) ⟨_, 0, _, rfl, by omega, ownN hb9, rfl⟩ ?_
  rintro m _ h2 ⟨k, v, rfl, hk, hown, rfl⟩
  by_cases hk2 : k < W.length
  · obtain ⟨e0, e1, e2⟩ := prs_at W k hk2
    have hsn := fm_snoc (fun q => q.2 == p) (·.1) W k hk2
    have hlen := fm_len (fun q => q.2 == p) (·.1) W k
    generalize W.getD k (0, 0) = q at *
    obtain ⟨q1, q2⟩ := q
    simp only at e0 e1 hsn
    by_cases hp : q2 = p
    · rw [if_pos (by simpa using hp)] at hsn
      simp (disch := omega) only [push_cast, simprocAttr, wrap_i64, toNat_ofInt64, Nat.min_eq_left, Int.toNat_of_nonneg, hk2, e0, e1, hp]
      refine Own.app hown (m := 1) rfl (by omega) (by omega) fun v3 h3 ho3 => ?_
      simp (disch := omega) only [push_cast, simprocAttr, wrap_i64, toNat_ofInt64, Nat.min_eq_left, Int.toNat_of_nonneg, ho3.one]
      exact ⟨_, _, by omega, .refl _, k + 1, v3, rfl, by omega, by rw [hsn, List.map_append, List.length_append]; exact ho3, rfl⟩
    · rw [if_neg (by simpa using hp)] at hsn
      simp (disch := omega) only [push_cast, simprocAttr, wrap_i64, toNat_ofInt64, Nat.min_eq_left, Int.toNat_of_nonneg, hk2, e0, e1, hp]
      exact ⟨_, _, by omega, .refl _, k + 1, v, rfl, by omega, by rw [hsn, List.append_nil]; exact hown, rfl⟩
  · obtain rfl : k = W.length := by omega
    rw [List.take_length] at hown
    have hlen := fm_len (fun q => q.2 == p) (·.1) W W.length
    rw [List.take_length] at hlen
    simp only [push_cast, simprocAttr, hk2]
    refine wkQ.own hown ?_
    simp only [push_cast, simprocAttr]
    refine (rSorted36_spec _ (by omega)).to ?_
    simp only [push_cast, simprocAttr]
    try rfl
theorem rPages36_spec (W : List (Int × Int)) (p : Int) (hl : W.length ≤ 1000000) : Spec Try.prog G 18 [prs W, .int .i64 p] h (Is (zr (pgP W p)) h) := by
  refine Spec.is C18ok rfl ?_
  simp only [push_cast, simprocAttr]
  intro b9 hb9
  refine lpc.rel [0, 1, 5, 6] (fun m ρ h' => ∃ (k : Nat) (v : AV), m = W.length - k ∧ k ≤ W.length ∧ Own 1 h v ((((W.take k).filter (fun q => q.1 == p)).map (·.2)).map (AV.int .i64)) (((W.take k).filter (fun q => q.1 == p)).map (·.2)).length h' ∧
    ρ = [(0, prs W), (1, .int .i64 p), (5, v), (6, .int .i64 (k : Int))]) ⟨_, 0, _, rfl, by omega, ownN hb9, rfl⟩ ?_
  rintro m _ h2 ⟨k, v, rfl, hk, hown, rfl⟩
  by_cases hk2 : k < W.length
  · obtain ⟨e0, e1, e2⟩ := prs_at W k hk2
    have hsn := fm_snoc (fun q => q.1 == p) (·.2) W k hk2
    have hlen := fm_len (fun q => q.1 == p) (·.2) W k
    generalize W.getD k (0, 0) = q at *
    obtain ⟨q1, q2⟩ := q
    simp only at e0 e1 hsn
    by_cases hp : q1 = p
    · rw [if_pos (by simpa using hp)] at hsn
      simp (disch := omega) only [push_cast, simprocAttr, wrap_i64, toNat_ofInt64, Nat.min_eq_left, Int.toNat_of_nonneg, hk2, e0, e1, hp]
      refine Own.app hown (m := 1) rfl (by omega) (by omega) fun v3 h3 ho3 => ?_
      simp (disch := omega) only [push_cast, simprocAttr, wrap_i64, toNat_ofInt64, Nat.min_eq_left, Int.toNat_of_nonneg, ho3.one]
      exact ⟨_, _, by omega, .refl _, k + 1, v3, rfl, by omega, by rw [hsn, List.map_append, List.length_append]; exact ho3, rfl⟩
    · rw [if_neg (by simpa using hp)] at hsn
      simp (disch := omega) only [push_cast, simprocAttr, wrap_i64, toNat_ofInt64, Nat.min_eq_left, Int.toNat_of_nonneg, hk2, e0, e1, hp]
      exact ⟨_, _, by omega, .refl _, k + 1, v, rfl, by omega, by rw [hsn, List.append_nil]; exact hown, rfl⟩
  · obtain rfl : k = W.length := by omega
    rw [List.take_length] at hown
    have hlen := fm_len (fun q => q.1 == p) (·.2) W W.length
    rw [List.take_length] at hlen
    simp only [push_cast, simprocAttr, hk2]
    refine wkQ.own hown ?_
    simp only [push_cast, simprocAttr]
    refine (rSorted36_spec _ (by omega)).to ?_
    simp only [push_cast, simprocAttr]
    try rfl
theorem filt_all {α : Type} (W : List α) : W.filter (fun _ => true) = W := by simp
theorem rAll36_spec (W : List (Int × Int)) (hl : W.length ≤ 1000000) : Spec Try.prog G 15 [prs W] h (Is (zr (allP W)) h) := by
  refine Spec.is C15ok rfl ?_
  simp only [push_cast, simprocAttr]
  intro b9 hb9
  refine lpc.rel [0, 3, 4] (fun m ρ h' => ∃ (k : Nat) (v : AV), m = W.length - k ∧ k ≤ W.length ∧ Own 1 h v ((((W.take k).filter (fun _ => true)).map (·.2)).map (AV.int .i64)) (((W.take k).filter (fun _ => true)).map (·.2)).length h' ∧
    ρ = [(0, prs W), (3, v), (4, .int .i64 (k : Int))]) ⟨_, 0, _, rfl, by omega, ownN hb9, rfl⟩ ?_
  rintro m _ h2 ⟨k, v, rfl, hk, hown, rfl⟩
  by_cases hk2 : k < W.length
  · obtain ⟨e0, e1, e2⟩ := prs_at W k hk2
    have hsn := fm_snoc (fun _ => true) (·.2) W k hk2
    have hlen := fm_len (fun _ => true) (·.2) W k
    generalize W.getD k (0, 0) = q at *
    obtain ⟨q1, q2⟩ := q
    simp only at e0 e1 hsn
    rw [if_pos trivial] at hsn
    simp (disch := omega) only [push_cast, simprocAttr, wrap_i64, toNat_ofInt64, Nat.min_eq_left, Int.toNat_of_nonneg, hk2, e0, e1]
    refine Own.app hown (m := 1) rfl (by omega) (by omega) fun v3 h3 ho3 => ?_
    simp (disch := omega) only [push_cast, simprocAttr, wrap_i64, toNat_ofInt64, Nat.min_eq_left, Int.toNat_of_nonneg, ho3.one]
    exact ⟨_, _, by omega, .refl _, k + 1, v3, rfl, by omega, by rw [hsn, List.map_append, List.length_append]; exact ho3, rfl⟩
  · obtain rfl : k = W.length := by omega
    rw [List.take_length, filt_all] at hown
    have hlen := fm_len (fun _ => true) (·.2) W W.length
    rw [List.take_length, filt_all] at hlen
    simp only [push_cast, simprocAttr, hk2]
    refine wkQ.own hown ?_
    simp only [push_cast, simprocAttr]
    refine (rSorted36_spec _ (by omega)).to ?_
    simp only [push_cast, simprocAttr]
    try rfl
theorem rIds36_spec (W : List (Int × Int)) (hl : W.length ≤ 1000000) : Spec Try.prog G 17 [prs W] h (Is (zr (idsP W)) h) := by
  refine Spec.is C17ok rfl ?_
  simp only [push_cast, simprocAttr]
  intro b9 hb9
  refine lpc.rel [0, 3, 4] (fun m ρ h' => ∃ (k : Nat) (v : AV), m = W.length - k ∧ k ≤ W.length ∧ Own 1 h v ((((W.take k).filter (fun _ => true)).map (·.1)).map (AV.int .i64)) (((W.take k).filter (fun _ => true)).map (·.1)).length h' ∧
    ρ = [(0, prs W), (3, v), (4, .int .i64 (k : Int))]) ⟨_, 0, _, rfl, by omega, ownN hb9, rfl⟩ ?_
  rintro m _ h2 ⟨k, v, rfl, hk, hown, rfl⟩
  by_cases hk2 : k < W.length
  · obtain ⟨e0, e1, e2⟩ := prs_at W k hk2
    have hsn := fm_snoc (fun _ => true) (·.1) W k hk2
    have hlen := fm_len (fun _ => true) (·.1) W k
    generalize W.getD k (0, 0) = q at *
    obtain ⟨q1, q2⟩ := q
    simp only at e0 e1 hsn
    rw [if_pos trivial] at hsn
    simp (disch := omega) only [push_cast, simprocAttr, wrap_i64, toNat_ofInt64, Nat.min_eq_left, Int.toNat_of_nonneg, hk2, e0, e1]
    refine Own.app hown (m := 1) rfl (by omega) (by omega) fun v3 h3 ho3 => ?_
    simp (disch := omega) only [push_cast, simprocAttr, wrap_i64, toNat_ofInt64, Nat.min_eq_left, Int.toNat_of_nonneg, ho3.one]
    exact ⟨_, _, by omega, .refl _, k + 1, v3, rfl, by omega, by rw [hsn, List.map_append, List.length_append]; exact ho3, rfl⟩
  · obtain rfl : k = W.length := by omega
    rw [List.take_length, filt_all] at hown
    have hlen := fm_len (fun _ => true) (·.1) W W.length
    rw [List.take_length, filt_all] at hlen
    simp only [push_cast, simprocAttr, hk2]
    refine wkQ.own hown ?_
    simp only [push_cast, simprocAttr]
    refine (rSorted36_spec _ (by omega)).to ?_
    simp only [push_cast, simprocAttr]
    try rfl
end Go.Ab
