/- Contracts: the smallest block. -/
import Derived.Test.YtecfchkmmnphdaaB8
set_option linter.unusedSimpArgs false
set_option linter.unusedVariables false
set_option maxRecDepth 10000
namespace Go.Ab
open Go.Proofs
variable {G : Glo} {h : Heap}
abbrev bks (l : List IBk) : AV := .ro (l.flatMap IBk.cells) l.length
abbrev bkps (l : List IBk) : AV := .ro (l.map bkP) l.length
def IBk.zero : IBk := ⟨[], [], [], 0⟩
@[push_cast] theorem bks_p (l : List IBk) (k : Nat) : partOf (l.flatMap IBk.cells) (k * 4) (some 4) = if k < l.length then some (.agg (l.getD k IBk.zero).cells) else none := flat_partD _ _ _ IBk.zero IBk.len (by omega) _
@[push_cast] theorem bkps_get (l : List IBk) (i : Nat) : (l.map bkP)[i]? = if i < l.length then some (bkP (l.getD i IBk.zero)) else none := by
  simp only [List.getElem?_map]
  split
  · rename_i h; simp [h]
  · rename_i h; simp [Nat.not_lt.1 h]
/-- The place of the smallest one so far. -/
def leastT (l : List IBk) : Nat → Nat × Bool
  | 0 => (0, false)
  | k + 1 => let r := leastT l k; let b := l.getD k IBk.zero; if b.check = 0 ∧ (r.2 = false ∨ b.size < (l.getD r.1 IBk.zero).size) then (k, true) else r
theorem leastT_ok (l : List IBk) (k : Nat) : ((leastT l k).2 = true → (leastT l k).1 < k ∧ (l.getD (leastT l k).1 IBk.zero).check = 0) := by
  induction k with
  | zero => intro h; cases h
  | succ k ih =>
    intro h
    simp only [leastT] at h ⊢
    split
    · rename_i hc
      exact ⟨by simp, hc.1⟩
    · rename_i hc
      rw [if_neg hc] at h
      have := ih h
      exact ⟨by omega, this.2⟩
theorem Least_spec (l : List IBk) (hl : l.length ≤ 140737488355328) (hw : ∀ i, i < l.length → (l.getD i IBk.zero).wf ∧ (l.getD i IBk.zero).size ≤ 140737488355328) : Spec Try.prog G 40 [bkps l] h (Is (.tup [.int .i64 (leastT l l.length).1, .bool (leastT l l.length).2]) h) := by
  refine Spec.is C40ok rfl ?_
  simp only [push_cast, simprocAttr]
  refine lpc.rel [0, 4, 5, 8, 9, 10] (fun m ρ h' => ∃ k : Nat, m = l.length - k ∧ k ≤ l.length ∧ h = h' ∧
    ρ = [(0, bkps l), (4, .int .i64 ((leastT l k).1 : Int)), (5, .bool (leastT l k).2), (8, bkps l), (9, .int .i64 (l.length : Int)), (10, .int .i64 (k : Int))]) ⟨_, 0, rfl, by omega, rfl, rfl⟩ ?_
  rintro m _ _ ⟨k, rfl, hk, rfl, rfl⟩
  simp only [push_cast, simprocAttr]
  refine ⟨fun hk2 => ⟨hk2, hk2, (Check_spec _ (hw k hk2).1).to ?_⟩, fun hk2 => ?_⟩
  · simp (disch := omega) only [push_cast, simprocAttr, wrap_i64, toNat_ofInt64, Nat.min_eq_left, Int.toNat_of_nonneg]
    have hok := leastT_ok l k
    have hst : leastT l (k + 1) = if (l.getD k IBk.zero).check = 0 ∧ ((leastT l k).2 = false ∨ (l.getD k IBk.zero).size < (l.getD (leastT l k).1 IBk.zero).size) then (k, true) else leastT l k := rfl
    have hn1 : ∀ x : Nat × Bool, leastT l k = x → (leastT l (k + 1) = if (l.getD k IBk.zero).check = 0 ∧ (x.2 = false ∨ (l.getD k IBk.zero).size < (l.getD x.1 IBk.zero).size) then (k, true) else x) := fun x hx => by rw [hst, hx]
    generalize hr : leastT l k = r at hok ⊢
    have hn := hn1 r hr
    clear hst hn1 hr
    obtain ⟨a, f⟩ := r
    have hwk := hw k hk2
    refine ⟨fun hc => ⟨_, _, by omega, .refl _, k + 1, rfl, by omega, rfl, by rw [hn, if_neg (fun h => hc h.1)]; rfl⟩, fun hc => ?_⟩
    cases f with
    | false =>
      simp (disch := omega) only [push_cast, simprocAttr, wrap_i64, toNat_ofInt64, Nat.min_eq_left, Int.toNat_of_nonneg]
      exact ⟨_, _, by omega, .refl _, k + 1, rfl, by omega, rfl, by rw [hn, if_pos ⟨hc, .inl rfl⟩]; rfl⟩
    | true =>
      obtain ⟨ha1, ha2⟩ := hok rfl
      simp only at ha1 ha2
      have ha3 : a < l.length := by omega
      simp (disch := omega) only [push_cast, simprocAttr, wrap_i64, toNat_ofInt64, Nat.min_eq_left, Int.toNat_of_nonneg, ha3]
      refine (Size_spec _ hwk.1 hwk.2).to ?_
      rw [if_pos hc]
      simp (disch := omega) only [push_cast, simprocAttr, wrap_i64, toNat_ofInt64, Nat.min_eq_left, Int.toNat_of_nonneg, ha3]
      refine (Size_spec _ (hw a ha3).1 (hw a ha3).2).to ?_
      rw [if_pos ha2]
      simp (disch := omega) only [push_cast, simprocAttr, wrap_i64, toNat_ofInt64, Nat.min_eq_left, Int.toNat_of_nonneg, ha3]
      refine ⟨fun hlt => ?_, fun hlt => ?_⟩
      · exact ⟨_, _, by omega, .refl _, k + 1, rfl, by omega, rfl, by rw [hn, if_pos ⟨hc, .inr (by simp only; omega)⟩]; rfl⟩
      · exact ⟨_, _, by omega, .refl _, k + 1, rfl, by omega, rfl, by rw [hn, if_neg (fun h => by rcases h.2 with h | h <;> simp only at h <;> first | cases h | omega)]; rfl⟩
  · obtain rfl : k = l.length := by omega
    rfl
theorem rLeast_spec (l : List IBk) (hl : l.length ≤ 140737488355328) (hw : ∀ i, i < l.length → (l.getD i IBk.zero).wf ∧ (l.getD i IBk.zero).size ≤ 140737488355328) : Spec Try.prog G 41 [bks l] h (Is (.tup [.int .i64 (leastT l l.length).1, .bool (leastT l l.length).2]) h) := by
  refine Spec.is C41ok rfl ?_
  simp only [push_cast, simprocAttr]
  refine lpc.rel [0, 4, 5, 6] (fun m ρ h' => ∃ k : Nat, m = l.length - k ∧ k ≤ l.length ∧ h = h' ∧
    ρ = [(0, bks l), (4, .int .i64 ((leastT l k).1 : Int)), (5, .bool (leastT l k).2), (6, .int .i64 (k : Int))]) ⟨_, 0, rfl, by omega, rfl, rfl⟩ ?_
  rintro m _ _ ⟨k, rfl, hk, rfl, rfl⟩
  simp only [push_cast, simprocAttr]
  refine ⟨fun hk2 => ⟨hk2, hk2, (rCheck_spec _ (hw k hk2).1).to ?_⟩, fun hk2 => ?_⟩
  · have hok := leastT_ok l k
    have hst : leastT l (k + 1) = if (l.getD k IBk.zero).check = 0 ∧ ((leastT l k).2 = false ∨ (l.getD k IBk.zero).size < (l.getD (leastT l k).1 IBk.zero).size) then (k, true) else leastT l k := rfl
    have hn1 : ∀ x : Nat × Bool, leastT l k = x → (leastT l (k + 1) = if (l.getD k IBk.zero).check = 0 ∧ (x.2 = false ∨ (l.getD k IBk.zero).size < (l.getD x.1 IBk.zero).size) then (k, true) else x) := fun x hx => by rw [hst, hx]
    generalize hr : leastT l k = r at hok ⊢
    have hn := hn1 r hr
    clear hst hn1 hr
    obtain ⟨a, f⟩ := r
    have hwk := hw k hk2
    by_cases hc : (l.getD k IBk.zero).check = 0
    · cases f with
      | false =>
        simp (disch := omega) only [push_cast, simprocAttr, wrap_i64, toNat_ofInt64, Nat.min_eq_left, Int.toNat_of_nonneg, hc]
        exact ⟨_, _, by omega, .refl _, k + 1, rfl, by omega, rfl, by rw [hn, if_pos ⟨hc, .inl rfl⟩]; rfl⟩
      | true =>
        obtain ⟨ha1, ha2⟩ := hok rfl
        simp only at ha1 ha2
        have ha3 : a < l.length := by omega
        simp (disch := omega) only [push_cast, simprocAttr, wrap_i64, toNat_ofInt64, Nat.min_eq_left, Int.toNat_of_nonneg, hc, ha3, hk2]
        refine (rSize_spec _ hwk.1 hwk.2).to ?_
        simp (disch := omega) only [push_cast, simprocAttr, wrap_i64, toNat_ofInt64, Nat.min_eq_left, Int.toNat_of_nonneg, hc, ha3, hk2]
        refine (rSize_spec _ (hw a ha3).1 (hw a ha3).2).to ?_
        simp (disch := omega) only [push_cast, simprocAttr, wrap_i64, toNat_ofInt64, Nat.min_eq_left, Int.toNat_of_nonneg, hc, ha3, hk2]
        refine ⟨fun hlt => ?_, fun hlt => ?_⟩
        · exact ⟨_, _, by omega, .refl _, k + 1, rfl, by omega, rfl, by rw [hn, if_pos ⟨hc, .inr (by simp only; omega)⟩]; rfl⟩
        · exact ⟨_, _, by omega, .refl _, k + 1, rfl, by omega, rfl, by rw [hn, if_neg (fun h => by rcases h.2 with h | h <;> simp only at h <;> first | cases h | omega)]; rfl⟩
    · have hcb := beq_eq_false_iff_ne.2 hc
      simp (disch := omega) only [push_cast, simprocAttr, wrap_i64, toNat_ofInt64, Nat.min_eq_left, Int.toNat_of_nonneg, hcb]
      exact ⟨_, _, by omega, .refl _, k + 1, rfl, by omega, rfl, by rw [hn, if_neg (fun h => hc h.1)]; rfl⟩
  · obtain rfl : k = l.length := by omega
    rfl
end Go.Ab
