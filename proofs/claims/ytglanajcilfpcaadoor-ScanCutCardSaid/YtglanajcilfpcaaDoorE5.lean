/- Memory: made anew, watched, and all its bytes. -/
import Derived.Test.YtglanajcilfpcaaDoorE4
set_option linter.unusedSimpArgs false
set_option linter.unusedVariables false
set_option maxRecDepth 10000
namespace Go.Ab
open Go.Proofs
variable {G : Glo} {h : Heap}
section
variable {l : Pl} {M : IRam}
def rightN (n : Int) : Bool := decide (64 ≤ n) && decide (n ≤ 65536) && decide (n % 64 = 0)
def IRam.new (n : Nat) : IRam := ⟨List.replicate n 0, List.replicate (n / 64) false, List.replicate (n / 64) 0⟩
/-- A memory that is made anew. -/
def RamNew (h : Heap) (n : Nat) (r : AV) (h' : Heap) : Prop := ∃ l : Pl, r = .tup [.ptr l.p 0, .int .i64 0] ∧ RamAt h' l (IRam.new n) ∧ (∀ c, l.has c → h c = none) ∧ ∀ c, ¬ l.has c → h' c = h c
theorem new_cells (n : Nat) : bys (List.replicate n 0) = List.replicate n (AV.int .u8 0) ∧ bos (List.replicate n false) = List.replicate n (AV.bool false) ∧ qws (List.replicate n 0) = List.replicate n (AV.int .u64 0) := by
  simp [bys, bos, qws]
theorem New_no (n : Int) (hn : rightN n = false) : Spec Tryd.prog G 25 [.int .i64 n] h (Is (.tup [.nilp, .int .i64 4]) h) := by
  have hc : ((decide (n < 64) || decide (n > 65536)) || (n.tmod 64 != 0)) = true := by
    simp only [rightN, Bool.and_eq_false_iff, decide_eq_false_iff_not] at hn
    simp only [Bool.or_eq_true, decide_eq_true_eq, bne_iff_ne]
    by_cases h64 : n < 64
    · exact .inl (.inl h64)
    · rw [Int.tmod_eq_emod_of_nonneg (by omega)]
      omega
  refine Spec.is C25ok rfl ?_
  simp only [push_cast, simprocAttr, hc]
theorem New_spec (n : Nat) (hn : rightN n = true) : Spec Tryd.prog G 25 [.int .i64 n] h (RamNew h n) := by
  simp only [rightN, Bool.and_eq_true, decide_eq_true_eq] at hn
  have hc : ((decide ((n : Int) < 64) || decide ((n : Int) > 65536)) || ((n : Int).tmod 64 != 0)) = false := by
    simp only [Bool.or_eq_false_iff, decide_eq_false_iff_not, bne_eq_false_iff_eq]
    rw [Int.tmod_eq_emod_of_nonneg (by omega)]
    omega
  have hq : (n : Int).tdiv 64 = ((n / 64 : Nat) : Int) := by simp
  obtain ⟨p, hp⟩ : ∃ p, n / 64 = p := ⟨_, rfl⟩
  rw [hp] at hq
  obtain ⟨c1, c2, c3⟩ := new_cells n
  obtain ⟨d1, d2, d3⟩ := new_cells p
  have fin : ∀ (b1 b2 b3 b4 : Nat) (H : Heap), (h b1 = none ∧ h b2 = none ∧ h b3 = none ∧ h b4 = none) → (b1 ≠ b2 ∧ b1 ≠ b3 ∧ b2 ≠ b3 ∧ b4 ≠ b1 ∧ b4 ≠ b2 ∧ b4 ≠ b3) →
      H b1 = some ⟨List.replicate n (.int .u8 0), 0⟩ → H b2 = some ⟨List.replicate p (.bool false), 0⟩ → H b3 = some ⟨List.replicate p (.int .u64 0), 0⟩ → H b4 = some ⟨[.sl b1 0 n n, .sl b2 0 p p, .sl b3 0 p p], 0⟩ →
      (∀ c, c ≠ b1 → c ≠ b2 → c ≠ b3 → c ≠ b4 → H c = h c) → RamNew h n (.tup [.ptr b4 0, .int .i64 0]) H := by
    intro b1 b2 b3 b4 H ⟨f1, f2, f3, f4⟩ ⟨n12, n13, n23, n41, n42, n43⟩ h1 h2 h3 h4 ho
    refine ⟨⟨b4, b1, b2, b3⟩, rfl, ⟨⟨n41, n42, n43, n12, n13, n23⟩, ?_, ?_, ?_, ?_, ?_⟩, ?_, ?_⟩
    · unfold IRam.wf IRam.new; simp; omega
    · rw [h4]; simp [IRam.new, hp]
    · rw [h1, ← c1]; rfl
    · rw [h2, ← d2, ← hp]; rfl
    · rw [h3, ← d3, ← hp]; rfl
    · rintro c (rfl | rfl | rfl | rfl) <;> assumption
    · intro c hc
      simp only [Pl.has, not_or] at hc
      exact ho c hc.2.1 hc.2.2.1 hc.2.2.2 hc.1
  refine Spec.walk C25ok rfl ?_
  have z1 : ((n : Int) - (n : Int)).toNat = 0 := by omega
  have z2 : ((p : Int) - (p : Int)).toNat = 0 := by omega
  have z3 : ∀ (x y z u : Nat), x ≠ y → x ≠ z → y ≠ z → u ≠ x → u ≠ y → u ≠ z → ∀ A B C D : Blk, upd (upd (upd (upd h x A) y B) z C) u D x = some A ∧ upd (upd (upd (upd h x A) y B) z C) u D y = some B ∧ upd (upd (upd (upd h x A) y B) z C) u D z = some C ∧
      upd (upd (upd (upd h x A) y B) z C) u D u = some D ∧ ∀ c, c ≠ x → c ≠ y → c ≠ z → c ≠ u → upd (upd (upd (upd h x A) y B) z C) u D c = h c := by
    intro x y z u q1 q2 q3 q4 q5 q6 A B C D
    refine ⟨?_, ?_, ?_, upd_same _ _ _, fun c k1 k2 k3 k4 => ?_⟩
    · rw [upd_ne (Ne.symm q4), upd_ne q2, upd_ne q1, upd_same]
    · rw [upd_ne (Ne.symm q5), upd_ne q3, upd_same]
    · rw [upd_ne (Ne.symm q6), upd_same]
    · rw [upd_ne k4, upd_ne k3, upd_ne k2, upd_ne k1]
  simp (disch := omega) only [push_cast, simprocAttr, wrap_i64, toNat_ofInt64, Nat.min_eq_left, Int.toNat_of_nonneg, hc, hq, z1, z2]
  (repeat' (first | apply And.intro | intro _)) <;> first
    | omega
    | (rename_i b0 e0 b1 e1 b2 e2 b3 e3
       obtain ⟨n10, f1⟩ := upd_none e1
       obtain ⟨n21, e2'⟩ := upd_none e2
       obtain ⟨n20, f2⟩ := upd_none e2'
       obtain ⟨n32, e3'⟩ := upd_none e3
       obtain ⟨n31, e3''⟩ := upd_none e3'
       obtain ⟨n30, f3⟩ := upd_none e3''
       have key := z3 b0 b1 b2 b3 (Ne.symm n10) (Ne.symm n20) (Ne.symm n21) n30 n31 n32
       clear z3
       first
         | exact fin b0 b1 b2 b3 _ ⟨e0, f1, f2, f3⟩ ⟨Ne.symm n10, Ne.symm n20, Ne.symm n21, n30, n31, n32⟩ (key _ _ _ _).1 (key _ _ _ _).2.1 (key _ _ _ _).2.2.1 (key _ _ _ _).2.2.2.1 (fun c q1 q2 q3 q4 => (key _ _ _ _).2.2.2.2 c q1 q2 q3 q4)
         | exact fin b0 b2 b1 b3 _ ⟨e0, f2, f1, f3⟩ ⟨Ne.symm n20, Ne.symm n10, n21, n30, n32, n31⟩ (key _ _ _ _).1 (key _ _ _ _).2.2.1 (key _ _ _ _).2.1 (key _ _ _ _).2.2.2.1 (fun c q1 q2 q3 q4 => (key _ _ _ _).2.2.2.2 c q1 q3 q2 q4)
         | exact fin b1 b0 b2 b3 _ ⟨f1, e0, f2, f3⟩ ⟨n10, Ne.symm n21, Ne.symm n20, n31, n30, n32⟩ (key _ _ _ _).2.1 (key _ _ _ _).1 (key _ _ _ _).2.2.1 (key _ _ _ _).2.2.2.1 (fun c q1 q2 q3 q4 => (key _ _ _ _).2.2.2.2 c q2 q1 q3 q4)
         | exact fin b2 b0 b1 b3 _ ⟨f2, e0, f1, f3⟩ ⟨n20, n21, Ne.symm n10, n32, n30, n31⟩ (key _ _ _ _).2.2.1 (key _ _ _ _).1 (key _ _ _ _).2.1 (key _ _ _ _).2.2.2.1 (fun c q1 q2 q3 q4 => (key _ _ _ _).2.2.2.2 c q2 q3 q1 q4)
         | exact fin b1 b2 b0 b3 _ ⟨f1, f2, e0, f3⟩ ⟨Ne.symm n21, n10, n20, n31, n32, n30⟩ (key _ _ _ _).2.1 (key _ _ _ _).2.2.1 (key _ _ _ _).1 (key _ _ _ _).2.2.2.1 (fun c q1 q2 q3 q4 => (key _ _ _ _).2.2.2.2 c q3 q1 q2 q4)
         | exact fin b2 b1 b0 b3 _ ⟨f2, f1, e0, f3⟩ ⟨n21, n20, n10, n32, n31, n30⟩ (key _ _ _ _).2.2.1 (key _ _ _ _).2.1 (key _ _ _ _).1 (key _ _ _ _).2.2.2.1 (fun c q1 q2 q3 q4 => (key _ _ _ _).2.2.2.2 c q3 q2 q1 q4))
end
end Go.Ab
