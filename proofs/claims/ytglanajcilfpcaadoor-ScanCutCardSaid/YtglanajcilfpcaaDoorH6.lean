/- The document's Decode. -/
import Derived.Test.YtglanajcilfpcaaDoorH5
set_option linter.unusedSimpArgs false
set_option linter.unusedVariables false
set_option maxRecDepth 10000
namespace Go.Ab
open Go.Proofs
variable {G : Glo} {h : Heap}
def patC : List AV := pats.flatMap fun p => [.int .u32 (p.1.toNat : Int), .int .u32 (p.2.toNat : Int)]
theorem patC_len : patC.length = 114 := rfl
theorem pats_len : pats.length = 57 := rfl
theorem patC_get (k : Nat) (hk : k < 57) : patC[k * 2]? = some (.int .u32 ((pats.getD k (0, 1)).1.toNat : Int)) ∧ patC[k * 2 + 1]? = some (.int .u32 ((pats.getD k (0, 1)).2.toNat : Int)) := by
  have : ∀ (l : List (BitVec 32 × BitVec 32)) (k : Nat), k < l.length → (l.flatMap fun p => [AV.int .u32 (p.1.toNat : Int), AV.int .u32 (p.2.toNat : Int)])[k * 2]? = some (.int .u32 ((l.getD k (0, 1)).1.toNat : Int)) ∧ (l.flatMap fun p => [AV.int .u32 (p.1.toNat : Int), AV.int .u32 (p.2.toNat : Int)])[k * 2 + 1]? = some (.int .u32 ((l.getD k (0, 1)).2.toNat : Int)) := by
    intro l
    induction l with
    | nil => intro k hk; simp at hk
    | cons p r ih =>
      intro k hk
      cases k with
      | zero => exact ⟨rfl, rfl⟩
      | succ k =>
        have := ih k (by simpa using hk)
        rw [Nat.succ_mul]
        simpa [List.flatMap_cons] using this
  exact this pats k (by rw [pats_len]; exact hk)
theorem Patterns_spec : Spec Tryd.prog G 48 [] h (Is (.ro patC 57) h) := by
  refine Spec.is C48ok rfl ?_
  simp only [push_cast, simprocAttr]
  rfl
theorem mul_ofNat (a b : Nat) : BitVec.ofNat 32 a * BitVec.ofNat 32 b = BitVec.ofNat 32 (a * b) := (BitVec.ofNat_mul ..).symm
theorem add_ofNat (a b : Nat) : BitVec.ofNat 32 a + BitVec.ofNat 32 b = BitVec.ofNat 32 (a + b) := (BitVec.ofNat_add ..).symm
theorem extN_spec (n k : Nat) (hn : n < 4294967296) (h1 : 1 ≤ k) (hk : k ≤ 32) : Spec Tryd.prog G 72 [.int .u32 ((BitVec.ofNat 32 n).toNat : Int), .int .i64 k] h (Is (.int .u32 (BitVec.ofNat 32 (extN n k)).toNat) h) := by
  have := Extend_spec (G := G) (h := h) (BitVec.ofNat 32 n) k h1 hk
  rw [show extN (BitVec.ofNat 32 n).toNat k = extN n k by rw [ofNat_toNat32 hn]] at this
  exact this
theorem rImm_spec (w : BitVec 32) (f : Nat) : Spec Tryd.prog G 49 [.int .u32 w.toNat, .int .i64 f] h (Is (.int .u32 (immN w f).toNat) h) := by
  have F := fun (hi lo : Nat) (h1 : lo ≤ hi) (h2 : hi ≤ 31) => rbits_spec (G := G) (h := h) w hi lo h1 h2
  by_cases c1 : f = 1
  · subst c1
    have hN : immN w 1 = BitVec.ofNat 32 (fld w 12 20 * 4096) := rfl
    rw [hN, ← mul_ofNat]
    refine Spec.is C49ok rfl ?_
    simp only [push_cast, simprocAttr]
    refine (F 31 12 (by omega) (by omega)).to ?_
    simp only [push_cast, simprocAttr]
  by_cases c2 : f = 2
  · subst c2
    have hN : immN w 2 = BitVec.ofNat 32 (extN (((fld w 31 1 * 256 + fld w 12 8) * 2 + fld w 20 1) * 2048 + fld w 21 10 * 2) 21) := rfl
    rw [hN]
    have a1 := fld_lt w 12 8
    have a2 := fld_lt w 20 1
    have a3 := fld_lt w 21 10
    have a4 := fld_lt w 31 1
    have hX : BitVec.ofNat 32 (((fld w 31 1 * 256 + fld w 12 8) * 2 + fld w 20 1) * 2048 + fld w 21 10 * 2) = ((BitVec.ofNat 32 (fld w 31 1) * 256#32 + BitVec.ofNat 32 (fld w 12 8)) * 2#32 + BitVec.ofNat 32 (fld w 20 1)) * 2048#32 + BitVec.ofNat 32 (fld w 21 10) * 2#32 := by
      rw [← add_ofNat, ← mul_ofNat, ← add_ofNat, ← mul_ofNat, ← add_ofNat, ← mul_ofNat, ← mul_ofNat]
    refine Spec.is C49ok rfl ?_
    simp only [push_cast, simprocAttr]
    refine (F 31 31 (by omega) (by omega)).to ?_
    simp only [push_cast, simprocAttr]
    refine (F 19 12 (by omega) (by omega)).to ?_
    simp only [push_cast, simprocAttr]
    refine (F 20 20 (by omega) (by omega)).to ?_
    simp only [push_cast, simprocAttr]
    refine (F 30 21 (by omega) (by omega)).to ?_
    simp only [push_cast, simprocAttr]
    rw [← hX]
    refine (extN_spec _ 21 (by omega) (by omega) (by omega)).to ?_
    simp only [push_cast, simprocAttr]
  by_cases c3 : f = 3
  · subst c3
    have hN : immN w 3 = BitVec.ofNat 32 (extN (fld w 20 12) 12) := rfl
    rw [hN]
    have a1 := fld_lt w 20 12
    refine Spec.is C49ok rfl ?_
    simp only [push_cast, simprocAttr]
    refine (F 31 20 (by omega) (by omega)).to ?_
    simp only [push_cast, simprocAttr]
    refine (extN_spec _ 12 (by omega) (by omega) (by omega)).to ?_
    simp only [push_cast, simprocAttr]
  by_cases c4 : f = 4
  · subst c4
    have hN : immN w 4 = BitVec.ofNat 32 (extN (((fld w 31 1 * 2 + fld w 7 1) * 64 + fld w 25 6) * 32 + fld w 8 4 * 2) 13) := rfl
    rw [hN]
    have a1 := fld_lt w 7 1
    have a2 := fld_lt w 25 6
    have a3 := fld_lt w 8 4
    have a4 := fld_lt w 31 1
    have hX : BitVec.ofNat 32 (((fld w 31 1 * 2 + fld w 7 1) * 64 + fld w 25 6) * 32 + fld w 8 4 * 2) = ((BitVec.ofNat 32 (fld w 31 1) * 2#32 + BitVec.ofNat 32 (fld w 7 1)) * 64#32 + BitVec.ofNat 32 (fld w 25 6)) * 32#32 + BitVec.ofNat 32 (fld w 8 4) * 2#32 := by
      rw [← add_ofNat, ← mul_ofNat, ← add_ofNat, ← mul_ofNat, ← add_ofNat, ← mul_ofNat, ← mul_ofNat]
    refine Spec.is C49ok rfl ?_
    simp only [push_cast, simprocAttr]
    refine (F 31 31 (by omega) (by omega)).to ?_
    simp only [push_cast, simprocAttr]
    refine (F 7 7 (by omega) (by omega)).to ?_
    simp only [push_cast, simprocAttr]
    refine (F 30 25 (by omega) (by omega)).to ?_
    simp only [push_cast, simprocAttr]
    refine (F 11 8 (by omega) (by omega)).to ?_
    simp only [push_cast, simprocAttr]
    rw [← hX]
    refine (extN_spec _ 13 (by omega) (by omega) (by omega)).to ?_
    simp only [push_cast, simprocAttr]
  by_cases c5 : f = 5
  · subst c5
    have hN : immN w 5 = BitVec.ofNat 32 (extN (fld w 25 7 * 32 + fld w 7 5) 12) := rfl
    rw [hN]
    have a1 := fld_lt w 25 7
    have a2 := fld_lt w 7 5
    have hX : BitVec.ofNat 32 (fld w 25 7 * 32 + fld w 7 5) = BitVec.ofNat 32 (fld w 25 7) * 32#32 + BitVec.ofNat 32 (fld w 7 5) := by
      rw [← add_ofNat, ← mul_ofNat]
    refine Spec.is C49ok rfl ?_
    simp only [push_cast, simprocAttr]
    refine (F 31 25 (by omega) (by omega)).to ?_
    simp only [push_cast, simprocAttr]
    refine (F 11 7 (by omega) (by omega)).to ?_
    simp only [push_cast, simprocAttr]
    rw [← hX]
    refine (extN_spec _ 12 (by omega) (by omega) (by omega)).to ?_
    simp only [push_cast, simprocAttr]
  by_cases c7 : f = 7
  · subst c7
    have hN : immN w 7 = BitVec.ofNat 32 (fld w 20 5) := rfl
    rw [hN]
    refine Spec.is C49ok rfl ?_
    simp only [push_cast, simprocAttr]
    refine (F 24 20 (by omega) (by omega)).to ?_
    simp only [push_cast, simprocAttr]
  by_cases c9 : f = 9
  · subst c9
    have hN : immN w 9 = BitVec.ofNat 32 (fld w 15 5) := rfl
    rw [hN]
    refine Spec.is C49ok rfl ?_
    simp only [push_cast, simprocAttr]
    refine (F 19 15 (by omega) (by omega)).to ?_
    simp only [push_cast, simprocAttr]
  have hN : immN w f = 0#32 := by simp [immN, c1, c2, c3, c4, c5, c7, c9]
  have n1 : ((f : Int) = 1) = False := by simp only [eq_iff_iff, iff_false]; omega
  have n2 : ((f : Int) = 2) = False := by simp only [eq_iff_iff, iff_false]; omega
  have n3 : ((f : Int) = 3) = False := by simp only [eq_iff_iff, iff_false]; omega
  have n4 : ((f : Int) = 4) = False := by simp only [eq_iff_iff, iff_false]; omega
  have n5 : ((f : Int) = 5) = False := by simp only [eq_iff_iff, iff_false]; omega
  have n7 : ((f : Int) = 7) = False := by simp only [eq_iff_iff, iff_false]; omega
  have n9 : ((f : Int) = 9) = False := by simp only [eq_iff_iff, iff_false]; omega
  rw [hN]
  refine Spec.is C49ok rfl ?_
  simp only [push_cast, simprocAttr, n1, n2, n3, n4, n5, n7, n9]
set_option maxHeartbeats 8000000 in
theorem rForm_spec (op : Nat) (ho : op < 58) : Spec Tryd.prog G 40 [.int .i64 op] h (Is (.int .i64 (formN op : Nat)) h) := by
  have hk : op = 0 ∨ op = 1 ∨ op = 2 ∨ op = 3 ∨ op = 4 ∨ op = 5 ∨ op = 6 ∨ op = 7 ∨ op = 8 ∨ op = 9 ∨ op = 10 ∨ op = 11 ∨ op = 12 ∨ op = 13 ∨ op = 14 ∨ op = 15 ∨ op = 16 ∨ op = 17 ∨ op = 18 ∨ op = 19 ∨ op = 20 ∨ op = 21 ∨ op = 22 ∨ op = 23 ∨ op = 24 ∨ op = 25 ∨ op = 26 ∨ op = 27 ∨ op = 28 ∨ op = 29 ∨ op = 30 ∨ op = 31 ∨ op = 32 ∨ op = 33 ∨ op = 34 ∨ op = 35 ∨ op = 36 ∨ op = 37 ∨ op = 38 ∨ op = 39 ∨ op = 40 ∨ op = 41 ∨ op = 42 ∨ op = 43 ∨ op = 44 ∨ op = 45 ∨ op = 46 ∨ op = 47 ∨ op = 48 ∨ op = 49 ∨ op = 50 ∨ op = 51 ∨ op = 52 ∨ op = 53 ∨ op = 54 ∨ op = 55 ∨ op = 56 ∨ op = 57 := by omega
  rcases hk with rfl | rfl | rfl | rfl | rfl | rfl | rfl | rfl | rfl | rfl | rfl | rfl | rfl | rfl | rfl | rfl | rfl | rfl | rfl | rfl | rfl | rfl | rfl | rfl | rfl | rfl | rfl | rfl | rfl | rfl | rfl | rfl | rfl | rfl | rfl | rfl | rfl | rfl | rfl | rfl | rfl | rfl | rfl | rfl | rfl | rfl | rfl | rfl | rfl | rfl | rfl | rfl | rfl | rfl | rfl | rfl | rfl | rfl <;>
  · refine Spec.is C40ok rfl ?_
    simp only [push_cast, simprocAttr]
    rfl
end Go.Ab
