/- The document's pairs: added, dropped. -/
import Derived.Test.YtknamhmjhmdikaaK1
set_option linter.unusedSimpArgs false
set_option linter.unusedVariables false
set_option maxRecDepth 10000
namespace Go.Ab
open Go.Proofs
variable {G : Glo} {h : Heap}
theorem ownN {sz b : Nat} (hb : h b = none) : Own sz h (.sl b 0 0 0) [] 0 (Ab.upd h b ⟨[], 0⟩) := .row b 0 0 [] [] 0 hb (by simp) (by simp)
theorem zr_at (l : List Int) {k : Nat} (hk : k < l.length) : (l.map (AV.int .i64))[k]? = some (.int .i64 (l.getD k 0)) := by simp [List.getD_eq_getElem?_getD, hk]
theorem rAdd36_spec (W : List (Int × Int)) (i : Int) (ps : List Int) (hl : W.length ≤ 1000000) (hp : ps.length ≤ 1000000) : Spec Try.prog G 9 [prs W, .int .i64 i, zr ps] h (Is (prs (addP W i ps)) h) := by
  refine Spec.is C9ok rfl ?_
  simp only [push_cast, simprocAttr]
  intro b9 hb9
  simp only [push_cast, simprocAttr, prs_len W]
  refine Own.app (ownN hb9) (m := W.length) (prs_len W) (by omega) (by omega) fun v0 h0 ho0 => ?_
  simp only [push_cast, simprocAttr, ho0.one]
  rw [List.nil_append, Nat.zero_add] at ho0
  refine lpc.rel [1, 2, 7, 8] (fun m ρ h' => ∃ (k : Nat) (v : AV), m = ps.length - k ∧ k ≤ ps.length ∧ Own 2 h v ((addP W i (ps.take k)).flatMap prc) (addP W i (ps.take k)).length h' ∧
    ρ = [(1, .int .i64 i), (2, zr ps), (7, v), (8, .int .i64 (k : Int))]) ⟨_, 0, v0, rfl, by omega, by simpa [addP] using ho0, rfl⟩ ?_
  rintro m _ h2 ⟨k, v, rfl, hk, hown, rfl⟩
  by_cases hk2 : k < ps.length
  · have hlen := addP_len (i := i) (ps := ps.take k) (W := W)
    rw [List.length_take] at hlen
    have e1 := zr_at ps hk2
    have hH := borrowP (rHas36_spec (G := G) (h := noH) (addP W i (ps.take k)) (i, ps.getD k 0) (by omega)) (h := h2) (.cons hown.arg (.cons (.same _ _) .nil)) rfl
    have hsn := addP_snoc W i (ps.take k) (ps.getD k 0)
    rw [← take_snoc ps 0 hk2] at hsn
    have pm : [AV.int .i64 i, .int .i64 (ps.getD k 0)] = prc (i, ps.getD k 0) := rfl
    simp (disch := omega) only [push_cast, simprocAttr, wrap_i64, toNat_ofInt64, Nat.min_eq_left, Int.toNat_of_nonneg, hk2, e1, pm]
    refine hH.to ?_
    by_cases hm : (i, ps.getD k 0) ∈ addP W i (ps.take k)
    · rw [if_pos hm] at hsn
      simp (disch := omega) only [push_cast, simprocAttr, wrap_i64, toNat_ofInt64, Nat.min_eq_left, Int.toNat_of_nonneg, hm]
      exact ⟨_, _, by omega, .refl _, k + 1, v, rfl, by omega, by rw [hsn]; exact hown, rfl⟩
    · rw [if_neg hm] at hsn
      simp (disch := omega) only [push_cast, simprocAttr, wrap_i64, toNat_ofInt64, Nat.min_eq_left, Int.toNat_of_nonneg, hm, hk2, e1, pm]
      refine Own.app hown (m := 1) (prc_len _) (by omega) (by omega) fun v3 h3 ho3 => ?_
      simp (disch := omega) only [push_cast, simprocAttr, wrap_i64, toNat_ofInt64, Nat.min_eq_left, Int.toNat_of_nonneg, ho3.one]
      exact ⟨_, _, by omega, .refl _, k + 1, v3, rfl, by omega, by rw [hsn, ← prs_snoc, List.length_append]; exact ho3, rfl⟩
  · obtain rfl : k = ps.length := by omega
    rw [List.take_length] at hown
    simp only [push_cast, simprocAttr, hk2]
    refine wkQ.own hown ?_
    simp only [push_cast, simprocAttr]
theorem rDrop36_spec (W : List (Int × Int)) (i : Int) (hl : W.length ≤ 1000000) : Spec Try.prog G 19 [prs W, .int .i64 i] h (Is (prs (dropP W i)) h) := by
  refine Spec.is C19ok rfl ?_
  simp only [push_cast, simprocAttr]
  intro b9 hb9
  refine lpc.rel [0, 1, 5, 6] (fun m ρ h' => ∃ (k : Nat) (v : AV), m = W.length - k ∧ k ≤ W.length ∧ Own 2 h v ((dropP (W.take k) i).flatMap prc) (dropP (W.take k) i).length h' ∧
    ρ = [(0, prs W), (1, .int .i64 i), (5, v), (6, .int .i64 (k : Int))]) ⟨_, 0, _, rfl, by omega, ownN hb9, rfl⟩ ?_
  rintro m _ h2 ⟨k, v, rfl, hk, hown, rfl⟩
  by_cases hk2 : k < W.length
  · obtain ⟨e0, e1, e2⟩ := prs_at W k hk2
    have hlen : (dropP (W.take k) i).length ≤ (W.take k).length := List.length_filter_le _ _
    rw [List.length_take] at hlen
    have hsn : dropP (W.take (k + 1)) i = dropP (W.take k) i ++ (if (W.getD k (0, 0)).1 = i then [] else [W.getD k (0, 0)]) := by
      rw [take_snoc W (0, 0) hk2]
      simp only [dropP, List.filter_append]
      generalize W.getD k (0, 0) = q
      congr 1
      by_cases e : q.1 = i
      · rw [if_pos e]; simp [List.filter_cons, e]
      · rw [if_neg e]; simp [List.filter_cons, e]
    by_cases hi : (W.getD k (0, 0)).1 = i
    · rw [if_pos hi, List.append_nil] at hsn
      simp (disch := omega) only [push_cast, simprocAttr, wrap_i64, toNat_ofInt64, Nat.min_eq_left, Int.toNat_of_nonneg, hk2, e0, hi]
      exact ⟨_, _, by omega, .refl _, k + 1, v, rfl, by omega, by rw [hsn]; exact hown, rfl⟩
    · rw [if_neg hi] at hsn
      simp (disch := omega) only [push_cast, simprocAttr, wrap_i64, toNat_ofInt64, Nat.min_eq_left, Int.toNat_of_nonneg, hk2, e0, e2, hi]
      refine Own.app hown (m := 1) (prc_len _) (by omega) (by omega) fun v3 h3 ho3 => ?_
      simp (disch := omega) only [push_cast, simprocAttr, wrap_i64, toNat_ofInt64, Nat.min_eq_left, Int.toNat_of_nonneg, ho3.one]
      exact ⟨_, _, by omega, .refl _, k + 1, v3, rfl, by omega, by rw [hsn, ← prs_snoc, List.length_append]; exact ho3, rfl⟩
  · obtain rfl : k = W.length := by omega
    rw [List.take_length] at hown
    simp only [push_cast, simprocAttr, hk2]
    refine wkQ.own hown ?_
    simp only [push_cast, simprocAttr]
end Go.Ab
