/- The document's numbers, rising, each once. -/
import Derived.Test.YtknamhmjhmdikaaK2
set_option linter.unusedSimpArgs false
set_option linter.unusedVariables false
set_option maxRecDepth 10000
namespace Go.Ab
open Go.Proofs
variable {G : Glo} {h : Heap}
theorem srt_body {l o : List Int} {x : Int} {k j : Nat} (hk : k < l.length) (hj : j ≤ o.length) (ho : o.length ≤ 1000000) (e1 : (l.map (AV.int .i64))[k]? = some (.int .i64 x)) {Q : Exit → Env → Heap → Prop}
    (hq : ∀ v H ρ, Own 1 h v ((o.take j ++ x :: o.drop j).map (AV.int .i64)) (o.length + 1) H → lk ρ 0 = zr l → lk ρ 3 = v → lk ρ 4 = .int .i64 (k : Int) → Q .normal ρ H) :
    wpc Try.prog G Try.f27.ntmps C27_16 Q [(0, zr l), (3, zr o), (4, .int .i64 (k : Int)), (5, .int .i64 (j : Int)), (44, .bool true)] h := by
  have f1 : ((j : Int) ≤ (o.length : Int)) = True := by simp [hj]
  have f2 : (List.take j (List.map (AV.int .i64) o)).length = j := by simp [hj]
  have f3 : (List.take (o.length - j) (List.drop j (List.map (AV.int .i64) o))).length = o.length - j := by simp
  simp (disch := omega) only [push_cast, simprocAttr, wrap_i64, toNat_ofInt64, Nat.min_eq_left, Int.toNat_of_nonneg, f1, f2, f3, hk, e1]
  have f4 : 0 + j + 1 + (o.length - j) = o.length + 1 := by omega
  have f5 : [] ++ List.take j (List.map (AV.int .i64) o) ++ [AV.int .i64 x] ++ List.take (o.length - j) (List.drop j (List.map (AV.int .i64) o)) = (o.take j ++ x :: o.drop j).map (AV.int .i64) := by
    rw [List.take_of_length_le (l := List.drop j (List.map (AV.int .i64) o)) (by simp)]
    simp [List.map_append, List.map_take, List.map_drop]
  refine ⟨fun b hb => ⟨?_, ?_⟩, fun b hb => ?_⟩
  all_goals
    (refine Own.app (ownN hb) (m := j) (by rw [f2, Nat.mul_one]) (by omega) (by omega) fun v1 h1 o1 => ?_
     simp (disch := omega) only [push_cast, simprocAttr, wrap_i64, toNat_ofInt64, Nat.min_eq_left, Int.toNat_of_nonneg, f1, f2, f3, hk, e1, o1.one]
     refine Own.app o1 (m := 1) rfl (by omega) (by omega) fun v2 h2 o2 => ?_
     simp (disch := omega) only [push_cast, simprocAttr, wrap_i64, toNat_ofInt64, Nat.min_eq_left, Int.toNat_of_nonneg, f1, f2, f3, hk, e1, o1.one, o2.one]
     refine Own.app o2 (m := o.length - j) (by rw [f3, Nat.mul_one]) (by omega) (by omega) fun v3 h3 o3 => ?_
     simp (disch := omega) only [push_cast, simprocAttr, wrap_i64, toNat_ofInt64, Nat.min_eq_left, Int.toNat_of_nonneg, f1, f2, f3, hk, e1, o1.one, o2.one, o3.one]
     rw [f4, f5] at o3
     exact hq _ _ _ o3 rfl rfl rfl)
theorem rSorted36_spec (l : List Int) (hl : l.length ≤ 1000000) : Spec Try.prog G 27 [zr l] h (Is (zr (sortU l)) h) := by
  refine Spec.is C27ok rfl ?_
  simp only [push_cast, simprocAttr]
  refine lpc.rel [0, 3, 4] (fun m ρ h' => ∃ k : Nat, m = l.length - k ∧ k ≤ l.length ∧ h = h' ∧ ρ = [(0, zr l), (3, zr (sortU (l.take k))), (4, .int .i64 (k : Int))]) ⟨_, 0, rfl, by omega, rfl, rfl⟩ ?_
  rintro m _ _ ⟨k, rfl, hk, rfl, rfl⟩
  by_cases hk2 : k < l.length
  · have e1 := zr_at l hk2
    have hsn := sortU_snoc (l.take k) (l.getD k 0)
    rw [← take_snoc l 0 hk2] at hsn
    have hol := sortU_len (l.take k)
    rw [List.length_take] at hol
    have hasc := sortU_asc (l.take k)
    generalize sortU (l.take k) = o at *
    generalize l.getD k 0 = x at *
    have hol2 : o.length ≤ 1000000 := by omega
    clear hol
    have hB := fun (j : Nat) (hj : j ≤ o.length) Q hq => srt_body (G := G) (h := h) (Q := Q) hk2 hj hol2 e1 hq
    show wpc _ _ _ (.seq [0, 3, 4] C27_5 (.seq [0, 3, 4] (.block 1 (.seq [0, 3, 4, 5] C27_6 (.seq [0, 3, 4, 5] C27_14 (.seq [0, 3, 4, 5, 44] C27_15 (.cond (.tmp 44) C27_16 .skip))))) C27_23)) _ _ _
    generalize C27_16 = Y at hB ⊢
    simp (disch := omega) only [push_cast, simprocAttr, wrap_i64, toNat_ofInt64, Nat.min_eq_left, Int.toNat_of_nonneg, hk2]
    refine lpc.rel [0, 3, 4, 5] (fun m ρ h' => ∃ j : Nat, m = o.length - j ∧ j ≤ o.length ∧ h = h' ∧ (∀ i a, i < j → o[i]? = some a → a < x) ∧ ρ = [(0, zr l), (3, zr o), (4, .int .i64 (k : Int)), (5, .int .i64 (j : Int))]) ⟨_, 0, rfl, by omega, rfl, by intro i a hi; omega, rfl⟩ ?_
    rintro m _ _ ⟨j, rfl, hj, rfl, hall, rfl⟩
    have step : (j = o.length ∨ ∃ a, o[j]? = some a ∧ ¬ a < x) ∨ ∃ a, j < o.length ∧ o[j]? = some a ∧ a < x := by
      by_cases hj2 : j < o.length
      · by_cases hx : o[j] < x
        · exact .inr ⟨o[j], hj2, List.getElem?_eq_getElem hj2, hx⟩
        · exact .inl (.inr ⟨o[j], List.getElem?_eq_getElem hj2, hx⟩)
      · exact .inl (.inl (by omega))
    rcases step with hend | ⟨a, hj2, ha, hax⟩
    · have hj3 := lessN_at hall hend
      have hnew : (j = o.length ∨ o[j]? ≠ some x) → insU x o = o.take j ++ x :: o.drop j := by rw [hj3]; exact insU_new
      have hold : j < o.length → o[j]? = some x → insU x o = o := by rw [hj3]; exact insU_old
      have hN : ∀ (v : AV) (H : Heap) (ρ : Env), insU x o = o.take j ++ x :: o.drop j → Own 1 h v ((o.take j ++ x :: o.drop j).map (AV.int .i64)) (o.length + 1) H → Own 1 h v ((insU x o).map (AV.int .i64)) (insU x o).length H := by
        intro v H _ hi ho
        rw [hi, show (o.take j ++ x :: o.drop j).length = o.length + 1 by simp; omega]
        exact ho
      rcases hend with hje | ⟨a, ha, hax⟩
      · have hi := hnew (.inl hje)
        subst hje
        have hjj : ¬ o.length < o.length := by omega
        simp (disch := omega) only [push_cast, simprocAttr, wrap_i64, toNat_ofInt64, Nat.min_eq_left, Int.toNat_of_nonneg, e1, hk2, hjj]
        refine hB _ hj _ fun v H ρ ho l0 l3 l4 => ?_
        simp (disch := omega) only [push_cast, simprocAttr, wrap_i64, toNat_ofInt64, Nat.min_eq_left, Int.toNat_of_nonneg, l0, l3, l4]
        refine wkQ.own (hN v H ρ hi ho) ?_
        simp (disch := omega) only [push_cast, simprocAttr, wrap_i64, toNat_ofInt64, Nat.min_eq_left, Int.toNat_of_nonneg, l0, l3, l4]
        exact ⟨_, _, by omega, .refl _, k + 1, rfl, by omega, rfl, by rw [hsn]; rfl⟩
      · have hj2 : j < o.length := (List.getElem?_eq_some_iff.1 ha).1
        have hj4 : ¬ j = o.length := by omega
        have hj5 : ¬ (j : Int) = o.length := by omega
        have e2 : (o.map (AV.int .i64))[j]? = some (.int .i64 a) := by simp [ha]
        by_cases hx : a = x
        · subst hx
          rw [hold hj2 ha] at hsn
          simp (disch := omega) only [push_cast, simprocAttr, wrap_i64, toNat_ofInt64, Nat.min_eq_left, Int.toNat_of_nonneg, hj2, hj4, hj5, e1, e2, hk2, hax]
          refine wkQ.same ?_
          simp (disch := omega) only [push_cast, simprocAttr, wrap_i64, toNat_ofInt64, Nat.min_eq_left, Int.toNat_of_nonneg]
          exact ⟨_, _, by omega, .refl _, k + 1, rfl, by omega, rfl, by rw [hsn]; rfl⟩
        · have hi := hnew (.inr (by rw [ha]; simpa using hx))
          have hx' : (a != x) = true := by simpa using hx
          simp (disch := omega) only [push_cast, simprocAttr, wrap_i64, toNat_ofInt64, Nat.min_eq_left, Int.toNat_of_nonneg, hj2, hj4, hj5, e1, e2, hk2, hax, hx']
          refine hB j hj _ fun v H ρ ho l0 l3 l4 => ?_
          simp (disch := omega) only [push_cast, simprocAttr, wrap_i64, toNat_ofInt64, Nat.min_eq_left, Int.toNat_of_nonneg, l0, l3, l4]
          refine wkQ.own (hN v H ρ hi ho) ?_
          simp (disch := omega) only [push_cast, simprocAttr, wrap_i64, toNat_ofInt64, Nat.min_eq_left, Int.toNat_of_nonneg, l0, l3, l4]
          exact ⟨_, _, by omega, .refl _, k + 1, rfl, by omega, rfl, by rw [hsn]; rfl⟩
    · have e2 : (o.map (AV.int .i64))[j]? = some (.int .i64 a) := by simp [ha]
      simp (disch := omega) only [push_cast, simprocAttr, wrap_i64, toNat_ofInt64, Nat.min_eq_left, Int.toNat_of_nonneg, hj2, e1, e2, hk2, hax]
      refine ⟨_, _, by omega, .refl _, j + 1, rfl, by omega, rfl, fun i b hi hb => ?_, rfl⟩
      by_cases hij : i = j
      · subst hij; rw [ha] at hb; cases hb; exact hax
      · exact hall i b (by omega) hb
  · obtain rfl : k = l.length := by omega
    rw [List.take_length]
    simp only [push_cast, simprocAttr, hk2]
end Go.Ab
