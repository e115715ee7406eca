/- The document's Decode is the program's. -/
import Derived.Test.YtglanajcilfpcaaDoorH6
set_option linter.unusedSimpArgs false
set_option linter.unusedVariables false
set_option maxRecDepth 10000
namespace Go.Ab
open Go.Proofs
variable {G : Glo} {h : Heap}
theorem rDecode_spec (w : BitVec 32) : Spec Tryd.prog G 31 [.int .u32 w.toNat] h (Is (.agg (decI w).cells) h) := by
  have F := fun (H : Heap) (hi lo : Nat) (h1 : lo ≤ hi) (h2 : hi ≤ 31) => rbits_spec (G := G) (h := H) w hi lo h1 h2
  have hlt := kindK_lt w
  have pl := patC_len
  have p6 : ∀ a b c d e f : AV, partOf [a, b, c, d, e, f] 0 (some 6) = some (.agg [a, b, c, d, e, f]) := fun _ _ _ _ _ _ => rfl
  refine Spec.is C31ok rfl ?_
  simp only [push_cast, simprocAttr]
  intro c2 hc2
  refine Patterns_spec.to ?_
  simp only [push_cast, simprocAttr]
  have m2 : upd h c2 ⟨[.int .i64 0, .int .i64 0, .int .i64 0, .int .i64 0, .int .u32 0, .int .i64 0], 0⟩ c2 = some ⟨[.int .i64 0, .int .i64 0, .int .i64 0, .int .i64 0, .int .u32 0, .int .i64 0], 0⟩ := upd_same _ _ _
  have s2 : Sub h (upd h c2 ⟨[.int .i64 0, .int .i64 0, .int .i64 0, .int .i64 0, .int .u32 0, .int .i64 0], 0⟩) := (Sub.refl h).alloc hc2
  generalize upd h c2 ⟨[.int .i64 0, .int .i64 0, .int .i64 0, .int .i64 0, .int .u32 0, .int .i64 0], 0⟩ = H at m2 s2 ⊢
  refine lpc.rel [0, 2, 3, 4] (fun m ρ h' => ∃ k : Nat, m = 57 - k ∧ k ≤ 57 ∧ H = h' ∧ (∀ j, j < k → hitI w j = false) ∧ ρ = [(0, .int .u32 w.toNat), (2, .ptr c2 0), (3, .ro patC 57), (4, .int .i64 (k : Int))]) ⟨_, 0, rfl, by omega, rfl, fun j hj => by omega, rfl⟩ ?_
  rintro m _ _ ⟨k, rfl, hk, rfl, hall, rfl⟩
  by_cases hk2 : k < 57
  · obtain ⟨g1, g2⟩ := patC_get k hk2
    have hit : hitI w k = decide (w &&& (pats.getD k (0, 1)).1 = (pats.getD k (0, 1)).2) := rfl
    have hkk : (k : Int) < 57 := by omega
    generalize pats.getD k (0, 1) = P at g1 g2 hit
    cases hh : hitI w k with
    | false =>
      rw [hh] at hit
      have hne : (w &&& P.1) ≠ P.2 := by have := of_decide_eq_false hit.symm; exact this
      have hb : ((w &&& P.1) != P.2) = true := by simp [hne]
      simp (disch := omega) only [push_cast, simprocAttr, wrap_i64, toNat_ofInt64, Nat.min_eq_left, Int.toNat_of_nonneg, pl, g1, g2, hkk, hk2, hb]
      refine ⟨_, _, by omega, .refl _, k + 1, rfl, by omega, rfl, fun j hj => ?_, rfl⟩
      by_cases hjk : j = k
      · rw [hjk]; exact hh
      · exact hall j (by omega)
    | true =>
      rw [hh] at hit
      have heq : (w &&& P.1) = P.2 := of_decide_eq_true hit.symm
      have hb : ((w &&& P.1) != P.2) = false := by simp [heq]
      have hK : kindK w = k + 1 := (hitK w k hk2).1 hh
      have hD : decI w = laidN w (k + 1) := by rw [decI, if_neg (by omega), hK]
      rw [hD]
      obtain ⟨n, hn⟩ : ∃ n, k + 1 = n := ⟨_, rfl⟩
      have en : (k : Int) + 1 = (n : Int) := by omega
      rw [hn]
      have hf := fun H : Heap => rForm_spec (G := G) (h := H) n (by omega)
      have hi := fun H : Heap => rImm_spec (G := G) (h := H) w (formN n)
      have hle := formN_le n
      have hL : (laidN w n).cells = [.int .i64 n, .int .i64 (if formN n = 0 ∨ formN n = 4 ∨ formN n = 5 then 0 else (fld w 7 5 : Nat)), .int .i64 (if formN n = 3 ∨ formN n = 4 ∨ formN n = 5 ∨ formN n = 6 ∨ formN n = 7 ∨ formN n = 8 then (fld w 15 5 : Nat) else 0), .int .i64 (if formN n = 4 ∨ formN n = 5 ∨ formN n = 6 then (fld w 20 5 : Nat) else 0), .int .u32 ((immN w (formN n)).toNat : Int), .int .i64 (if formN n = 8 ∨ formN n = 9 then (fld w 20 12 : Nat) else 0)] := rfl
      rw [hL]
      clear hL hD
      generalize immN w (formN n) = I at hi ⊢
      have hf' : formN n = 0 ∨ formN n = 1 ∨ formN n = 2 ∨ formN n = 3 ∨ formN n = 4 ∨ formN n = 5 ∨ formN n = 6 ∨ formN n = 7 ∨ formN n = 8 ∨ formN n = 9 := by omega
      have v1 := fld_v w 15 5 (by omega)
      have v2 := fld_v w 7 5 (by omega)
      have v3 := fld_v w 20 5 (by omega)
      have v4 := fld_v w 20 12 (by omega)
      have l1 := fld_lt w 15 5
      have l2 := fld_lt w 7 5
      have l3 := fld_lt w 20 5
      have l4 := fld_lt w 20 12
      have w1 : IntKind.i64.wrap (fld w 15 5 : Nat) = (fld w 15 5 : Nat) := wrap_i64 (by omega) (by omega)
      have w2 : IntKind.i64.wrap (fld w 7 5 : Nat) = (fld w 7 5 : Nat) := wrap_i64 (by omega) (by omega)
      have w3 : IntKind.i64.wrap (fld w 20 5 : Nat) = (fld w 20 5 : Nat) := wrap_i64 (by omega) (by omega)
      have w4 : IntKind.i64.wrap (fld w 20 12 : Nat) = (fld w 20 12 : Nat) := wrap_i64 (by omega) (by omega)
      simp (disch := omega) only [push_cast, simprocAttr, wrap_i64, toNat_ofInt64, Nat.min_eq_left, Int.toNat_of_nonneg, pl, g1, g2, hkk, hk2, hb, en]
      refine (hf _).to ?_
      generalize formN n = f at *
      rcases hf' with rfl | rfl | rfl | rfl | rfl | rfl | rfl | rfl | rfl | rfl <;>
      · simp (disch := omega) only [push_cast, simprocAttr, wrap_i64, toNat_ofInt64, Nat.min_eq_left, Int.toNat_of_nonneg, en]
        refine (hi _).to ?_
        simp (disch := omega) only [push_cast, simprocAttr, wrap_i64, toNat_ofInt64, Nat.min_eq_left, Int.toNat_of_nonneg, en]
        intro c6 hc6
        have n6 : c2 ≠ c6 := fun e => by rw [← e, m2] at hc6; cases hc6
        have u6 : ∀ (H : Heap) X, upd H c6 X c2 = H c2 := fun H X => upd_ne n6
        have hs : ∀ X Y, Sub h (upd (upd H c6 X) c2 Y) := fun X Y => (s2.alloc hc6).set hc2
        clear hc6
        try simp (disch := omega) only [push_cast, simprocAttr, wrap_i64, toNat_ofInt64, Nat.min_eq_left, Int.toNat_of_nonneg, v1, v2, v3, v4, w1, w2, w3, w4, u6, m2, p6, en]
        repeat (first
          | (refine (F _ 19 15 (by omega) (by omega)).to ?_; (try simp (disch := omega) only [push_cast, simprocAttr, wrap_i64, toNat_ofInt64, Nat.min_eq_left, Int.toNat_of_nonneg, v1, v2, v3, v4, w1, w2, w3, w4, u6, m2, p6, en]))
          | (refine (F _ 24 20 (by omega) (by omega)).to ?_; (try simp (disch := omega) only [push_cast, simprocAttr, wrap_i64, toNat_ofInt64, Nat.min_eq_left, Int.toNat_of_nonneg, v1, v2, v3, v4, w1, w2, w3, w4, u6, m2, p6, en]))
          | (refine (F _ 31 20 (by omega) (by omega)).to ?_; (try simp (disch := omega) only [push_cast, simprocAttr, wrap_i64, toNat_ofInt64, Nat.min_eq_left, Int.toNat_of_nonneg, v1, v2, v3, v4, w1, w2, w3, w4, u6, m2, p6, en]))
          | (refine (F _ 11 7 (by omega) (by omega)).to ?_; (try simp (disch := omega) only [push_cast, simprocAttr, wrap_i64, toNat_ofInt64, Nat.min_eq_left, Int.toNat_of_nonneg, v1, v2, v3, v4, w1, w2, w3, w4, u6, m2, p6, en])))

        exact ⟨by simp, hs _ _⟩
  · obtain rfl : k = 57 := by omega
    have h0 : kindK w = 0 := by
      by_cases hz : kindK w = 0
      · exact hz
      · have := (hitK w (kindK w - 1) (by omega)).2 (by omega)
        rw [hall _ (by omega)] at this
        cases this
    have hD : decI w = IIn.zero := by rw [decI, if_pos h0]
    rw [hD]
    simp only [push_cast, simprocAttr, m2, p6]
    exact ⟨rfl, s2.set hc2⟩
end Go.Ab
