/- The law ForwardLeast, as it runs. -/
import Derived.Test.YtecfchkmmnphdaaB17
set_option linter.unusedSimpArgs false
set_option linter.unusedVariables false
set_option maxRecDepth 10000
namespace Go.Ab
open Go.Proofs
variable {G : Glo} {h : Heap}
theorem lawLeast_spec (l : List IBk) (hx : ∀ b ∈ l, b.exits.length ≤ 9223372036854775807) : Spec Try.prog G 11 [bks l] h (Is (.bool true) h) := by
  refine Spec.is C11ok rfl ?_
  simp only [push_cast, simprocAttr]
  refine ⟨fun h1 => awake42_spec.to ?_, fun h1 => ?_⟩
  · simp only [push_cast, simprocAttr]
  · have hl : l.length ≤ 10 := by omega
    intro c hc
    refine lpc.rel [0, 3, 4] (fun m ρ h' => ∃ (k : Nat) (v : AV), m = l.length - k ∧ k ≤ l.length ∧ Own 1 h v ((l.take k).map bkP) k h' ∧ (∀ i, i < k → (l.getD i IBk.zero).light = true) ∧
      ρ = [(0, bks l), (3, v), (4, .int .i64 (k : Int))]) ⟨_, 0, .sl c 0 0 0, rfl, by omega, own_new hc, by intro i hi; omega, rfl⟩ ?_
    rintro m _ h2 ⟨k, v, rfl, hk, ho, hall, rfl⟩
    have hsub := ho.sub
    simp only [push_cast, simprocAttr]
    refine ⟨fun hk2 => ⟨hk2, hk2, ?_⟩, fun hk2 => ?_⟩
    · have hb : (l.getD k IBk.zero) ∈ l := by
        rw [List.getD_eq_getElem?_getD, List.getElem?_eq_getElem hk2]; simp
      have htk : (l.take (k + 1)).map bkP = (l.take k).map bkP ++ [bkP (l.getD k IBk.zero)] := by
        rw [List.take_add_one, List.map_append]; simp [hk2]
      have hg : ∀ j, j = k → l.getD j IBk.zero = l.getD k IBk.zero := fun j hj => by rw [hj]
      generalize hB : l.getD k IBk.zero = b at hb htk hg ⊢
      refine (light_spec b (hx b hb)).to ?_
      simp only [push_cast, simprocAttr]
      refine ⟨fun hli => awake42_spec.to ?_, fun hli => ?_⟩
      · simp only [push_cast, simprocAttr]
        exact hsub
      · have hf := light_facts hli
        simp only [push_cast, simprocAttr, hk2, hB]
        refine (Own_spec b hf.1).to ?_
        simp only [push_cast, simprocAttr]
        refine Own.app ho (m := 1) rfl (by omega) (by omega) fun v3 h3 ho3 => ?_
        simp (disch := omega) only [push_cast, simprocAttr, wrap_i64, toNat_ofInt64, Nat.min_eq_left, Int.toNat_of_nonneg]
        refine ⟨_, _, by omega, .refl _, k + 1, v3, rfl, by omega, by rw [htk]; exact ho3, fun i hi => ?_, rfl⟩
        by_cases hik : i = k
        · rw [hg i hik]; exact hli
        · exact hall i (by omega)
    · obtain rfl : k = l.length := by omega
      rw [List.take_length] at ho
      refine wkQ.own ho ?_
      have hw : ∀ i, i < l.length → (l.getD i IBk.zero).wf ∧ (l.getD i IBk.zero).size ≤ 140737488355328 := fun i hi => by
        have := light_facts (hall i hi)
        exact ⟨this.1, by omega⟩
      refine (Least_spec l (by omega) hw).to ?_
      simp only [push_cast, simprocAttr]
      refine (rLeast_spec l (by omega) hw).to ?_
      simp only [push_cast, simprocAttr]
      refine awake42_spec.to ?_
      simp only [push_cast, simprocAttr]
end Go.Ab
