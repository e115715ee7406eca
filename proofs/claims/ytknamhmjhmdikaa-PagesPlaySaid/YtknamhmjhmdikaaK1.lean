/- The document's pairs of a block and a page. -/
import Derived.Test.YtknamhmjhmdikaaK0
import Derived.Test.YtknamhmjhmdikaaB1
set_option linter.unusedSimpArgs false
set_option linter.unusedVariables false
set_option maxRecDepth 10000
namespace Go.Ab
open Go.Proofs
variable {G : Glo} {h : Heap}
theorem borrowP {P : Program} {f : FuncId} {args args' : List AV} {h : Heap} {v : AV} (hs : Spec P G f args' noH (Is v noH)) (ha : Args1 h args args') (hv : flatV v = true) : Spec P G f args h (Is v h) :=
  Spec.borrow hs ha fun r h1 e => ⟨by rw [e.1]; exact hv, e.1, rfl⟩
def prc (q : Int × Int) : List AV := [.int .i64 q.1, .int .i64 q.2]
abbrev prs (W : List (Int × Int)) : AV := .ro (W.flatMap prc) W.length
@[push_cast] theorem prc_len (q) : (prc q).length = 2 := rfl
@[push_cast] theorem prc_0 (q) : (prc q)[0]? = some (.int .i64 q.1) := rfl
@[push_cast] theorem prc_1 (q) : (prc q)[1]? = some (.int .i64 q.2) := rfl
@[push_cast] theorem prc_all (q) : partOf (prc q) 0 (some 2) = some (.agg (prc q)) := rfl
theorem prc_mk (a b : Int) : [AV.int .i64 a, .int .i64 b] = prc (a, b) := rfl
@[push_cast] theorem prc_sp (a b : AV) (q) : splice [a, b] 0 (prc q) = prc q := rfl
@[push_cast] theorem prc_eq (p q) : aeq false [.i, .i] (.agg (prc p)) (.agg (prc q)) = some (.bool (decide (p = q))) := by
  obtain ⟨a, b⟩ := p
  obtain ⟨c, d⟩ := q
  simp only [aeq, prc, cellsEq, if_true, Option.map_some, Prod.mk.injEq, Bool.decide_and]
  congr 2
  rw [Bool.eq_iff_iff]
  simp
theorem prs_len (W : List (Int × Int)) : (W.flatMap prc).length = W.length * 2 := by
  induction W with
  | nil => rfl
  | cons q W ih => simp only [List.flatMap_cons, List.length_append, ih, prc_len, List.length_cons]; omega
theorem prs_at (W : List (Int × Int)) (k : Nat) (hk : k < W.length) : (W.flatMap prc)[k * 2]? = some (.int .i64 (W.getD k (0, 0)).1) ∧ (W.flatMap prc)[k * 2 + 1]? = some (.int .i64 (W.getD k (0, 0)).2) ∧ partOf (W.flatMap prc) (k * 2) (some 2) = some (.agg (prc (W.getD k (0, 0)))) := by
  have e0 := flat_getD prc 2 W (0, 0) prc_len k 0 (by omega)
  have e1 := flat_getD prc 2 W (0, 0) prc_len k 1 (by omega)
  rw [if_pos hk] at e0 e1
  refine ⟨by rw [Nat.add_zero] at e0; exact e0, e1, ?_⟩
  have hl := prs_len W
  rw [partOf_some, if_pos (by omega), flat_drop prc 2 W (fun x _ => prc_len x) k (by omega), List.drop_eq_getElem_cons hk, List.flatMap_cons, List.take_append_of_le_length (by rw [prc_len]; omega), List.take_of_length_le (by rw [prc_len]; omega)]
  simp [List.getD_eq_getElem?_getD, hk]
theorem prs_snoc (W : List (Int × Int)) (q : Int × Int) : W.flatMap prc ++ prc q = (W ++ [q]).flatMap prc := by simp
theorem mem_lt {W : List (Int × Int)} {q : Int × Int} (hq : q ∈ W) : ∃ k, k < W.length ∧ W.getD k (0, 0) = q := by
  obtain ⟨k, hk, e⟩ := List.getElem_of_mem hq
  exact ⟨k, hk, by simp [List.getD_eq_getElem?_getD, hk, e]⟩
theorem getD_in {α : Type} {W : List α} {d : α} {k : Nat} (hk : k < W.length) : W.getD k d ∈ W := by
  rw [List.getD_eq_getElem?_getD, List.getElem?_eq_getElem hk]; exact List.getElem_mem hk
theorem take_snoc {α : Type} (W : List α) (d : α) {k : Nat} (hk : k < W.length) : W.take (k + 1) = W.take k ++ [W.getD k d] := by
  rw [List.take_succ_eq_append_getElem hk]; simp [List.getD_eq_getElem?_getD, hk]
theorem rHas36_spec (W : List (Int × Int)) (q : Int × Int) (hl : W.length ≤ 1000000000000) : Spec Try.prog G 24 [prs W, .agg (prc q)] h (Is (.bool (decide (q ∈ W))) h) := by
  refine Spec.is C24ok rfl ?_
  simp only [push_cast, simprocAttr]
  refine lpc.rel [0, 3, 5] (fun m ρ h' => ∃ k : Nat, m = W.length - k ∧ k ≤ W.length ∧ h = h' ∧ (∀ i, i < k → W.getD i (0, 0) ≠ q) ∧ ρ = [(0, prs W), (3, .cp (prc q) 0), (5, .int .i64 (k : Int))]) ⟨_, 0, rfl, by omega, rfl, by intro i hi; omega, rfl⟩ ?_
  rintro m _ _ ⟨k, rfl, hk, rfl, hall, rfl⟩
  by_cases hk2 : k < W.length
  · obtain ⟨e0, e1, e2⟩ := prs_at W k hk2
    simp (disch := omega) only [push_cast, simprocAttr, wrap_i64, toNat_ofInt64, Nat.min_eq_left, Int.toNat_of_nonneg, hk2, e2]
    refine ⟨fun hv => ?_, fun hv => ?_⟩
    · rw [decide_eq_true (by rw [← hv]; exact getD_in hk2)]
    · refine ⟨_, _, by omega, .refl _, k + 1, rfl, by omega, rfl, fun i hi => ?_, rfl⟩
      by_cases hik : i = k
      · subst hik; exact hv
      · exact hall i (by omega)
  · obtain rfl : k = W.length := by omega
    simp only [push_cast, simprocAttr, hk2]
    rw [decide_eq_false (fun e => by obtain ⟨k, hk, e⟩ := mem_lt e; exact hall k hk e)]
theorem sameInts_spec (a b : List Int) (hl : a.length ≤ 1000000000000) : Spec Try.prog G 11 [zr a, zr b] h (Is (.bool (decide (a = b))) h) := by
  refine Spec.is C11ok rfl ?_
  by_cases h1 : a.length = b.length
  · have h1' : (a.length : Int) = b.length := by omega
    simp (disch := omega) only [push_cast, simprocAttr, wrap_i64, toNat_ofInt64, Nat.min_eq_left, Int.toNat_of_nonneg, h1]
    refine lpc.rel [0, 1, 5] (fun m ρ h' => ∃ k : Nat, m = a.length - k ∧ k ≤ a.length ∧ h = h' ∧ (∀ i, i < k → a.getD i 0 = b.getD i 0) ∧
      ρ = [(0, zr a), (1, zr b), (5, .int .i64 (k : Int))]) ⟨_, 0, rfl, by omega, rfl, by intro i hi; omega, rfl⟩ ?_
    rintro m _ _ ⟨k, rfl, hk, rfl, hall, rfl⟩
    by_cases hk2 : k < a.length
    · have hk3 : k < b.length := by omega
      have e1 : (a.map (AV.int .i64))[k]? = some (.int .i64 (a.getD k 0)) := by simp [List.getD_eq_getElem?_getD, hk2]
      have e2 : (b.map (AV.int .i64))[k]? = some (.int .i64 (b.getD k 0)) := by simp [List.getD_eq_getElem?_getD, hk3]
      simp (disch := omega) only [push_cast, simprocAttr, wrap_i64, toNat_ofInt64, Nat.min_eq_left, Int.toNat_of_nonneg, hk2, hk3, e1, e2]
      refine ⟨fun hv => ?_, fun hv => ?_⟩
      · rw [decide_eq_false (fun e => by rw [e] at hv; simp at hv)]
      · refine ⟨_, _, by omega, .refl _, k + 1, rfl, by omega, rfl, fun i hi => ?_, rfl⟩
        by_cases hik : i = k
        · subst hik; first | exact hv | simpa using hv
        · exact hall i (by omega)
    · obtain rfl : k = a.length := by omega
      have hk3 : ¬ a.length < b.length := by omega
      simp only [push_cast, simprocAttr, hk2, hk3]
      rw [decide_eq_true]
      refine List.ext_getElem h1 fun i hi hi' => ?_
      have := hall i hi
      simpa [List.getD_eq_getElem?_getD, hi, hi'] using this
  · have h2 : ¬ (a.length : Int) = b.length := by omega
    simp only [push_cast, simprocAttr, h1, h2]
    rw [decide_eq_false (fun e => h1 (by rw [e]))]
end Go.Ab
