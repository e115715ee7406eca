/- Which words' instructions can be translated: the document's judgement. -/
import Derived.Test.YtglanajcilfpcaaDoorH10
import Derived.Test.YtglanajcilfpcaaDoorB2
set_option linter.unusedSimpArgs false
set_option linter.unusedVariables false
set_option maxRecDepth 10000
namespace Go.Ab
open Go.Proofs
variable {G : Glo} {h : Heap}
set_option maxHeartbeats 8000000 in
theorem rCan_spec (w : BitVec 32) (n : Nat) (hn : n < 58) : Spec Tryd.prog G 33 [.agg (laidN w n).cells] h (Is (.bool (canN w n)) h) := by
  have hr := fun H : Heap => rRight_spec (G := G) (h := H) w n hn
  have hb := fun H : Heap => rBranch_spec (G := G) (h := H) n
  have hk := fun H : Heap => rReckons_spec (G := G) (h := H) n
  have e1 : (laidN w n).op = n := rfl
  have e2 : (laidN w n).imm = immN w (formN n) := rfl
  have hC : canN w n = if n = 3 then decide ((laidN w n).imm.toNat % 4 = 0) else if n = 4 then true else if brN n then true else !endsN n := by rw [canN, e2]
  rw [hC]
  clear hC e2
  generalize laidN w n = I at *
  by_cases c3 : n = 3
  · subst c3
    refine Spec.is C33ok rfl ?_
    simp only [push_cast, simprocAttr, e1]
    refine (hr _).to ?_
    simp only [push_cast, simprocAttr, e1]
    rw [Int.tmod_eq_emod_of_nonneg (by omega)]
    congr 1
    rw [Bool.eq_iff_iff]
    simp only [beq_iff_eq, decide_eq_true_eq, if_true, reduceIte]
    omega
  rw [if_neg c3]
  have hk2 : n = 0 ∨ n = 1 ∨ n = 2 ∨ n = 3 ∨ n = 4 ∨ n = 5 ∨ n = 6 ∨ n = 7 ∨ n = 8 ∨ n = 9 ∨ n = 10 ∨ n = 11 ∨ n = 12 ∨ n = 13 ∨ n = 14 ∨ n = 15 ∨ n = 16 ∨ n = 17 ∨ n = 18 ∨ n = 19 ∨ n = 20 ∨ n = 21 ∨ n = 22 ∨ n = 23 ∨ n = 24 ∨ n = 25 ∨ n = 26 ∨ n = 27 ∨ n = 28 ∨ n = 29 ∨ n = 30 ∨ n = 31 ∨ n = 32 ∨ n = 33 ∨ n = 34 ∨ n = 35 ∨ n = 36 ∨ n = 37 ∨ n = 38 ∨ n = 39 ∨ n = 40 ∨ n = 41 ∨ n = 42 ∨ n = 43 ∨ n = 44 ∨ n = 45 ∨ n = 46 ∨ n = 47 ∨ n = 48 ∨ n = 49 ∨ n = 50 ∨ n = 51 ∨ n = 52 ∨ n = 53 ∨ n = 54 ∨ n = 55 ∨ n = 56 ∨ n = 57 := by omega
  rcases hk2 with rfl | rfl | rfl | rfl | rfl | rfl | rfl | rfl | rfl | rfl | rfl | rfl | rfl | rfl | rfl | rfl | rfl | rfl | rfl | rfl | rfl | rfl | rfl | rfl | rfl | rfl | rfl | rfl | rfl | rfl | rfl | rfl | rfl | rfl | rfl | rfl | rfl | rfl | rfl | rfl | rfl | rfl | rfl | rfl | rfl | rfl | rfl | rfl | rfl | rfl | rfl | rfl | rfl | rfl | rfl | rfl | rfl | rfl
  all_goals try (exact absurd rfl c3)
  all_goals
    (simp [brN] at hb
     simp [reckonsN] at hk
     simp [brN, endsN]
     refine Spec.is C33ok rfl ?_
     simp only [push_cast, simprocAttr, e1]
     refine (hr _).to ?_
     (try simp only [push_cast, simprocAttr, e1])
     try (refine (hb _).to ?_; (try simp only [push_cast, simprocAttr, e1]))
     try (refine (hk _).to ?_; (try simp only [push_cast, simprocAttr, e1]))
     try rfl)
end Go.Ab
