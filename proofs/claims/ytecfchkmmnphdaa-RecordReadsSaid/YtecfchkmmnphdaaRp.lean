/- What is written is read as it was, and the other way about: plain law. -/
import Derived.Test.YtecfchkmmnphdaaRn
set_option linter.unusedVariables false
namespace Go.Ab
theorem ofNat_byte (c : BitVec 8) (h : ¬ c.toNat < 128) (m : Nat) : BitVec.ofNat 8 ((c.toNat % 128 + 128 * m) % 128 + 128) = c := by
  apply BitVec.eq_of_toNat_eq
  have := c.isLt
  rw [BitVec.toNat_ofNat]
  omega
theorem rdN_num (most : Nat) (hm : most < 2 ^ 64) : ∀ (m : Nat) (k a : Nat) (r : List (BitVec 8)), a + m * 2 ^ (7 * k) ≤ most → (k = 0 ∨ 0 < m) → k ≤ 9 → rdN most (num m ++ r) k a = some (a + m * 2 ^ (7 * k), r) := by
  intro m
  induction m using Nat.strongRecOn with
  | ind m ih =>
    intro k a r h1 h2 h3
    have hp : 0 < 2 ^ (7 * k) := Nat.two_pow_pos _
    have hle : ∀ x, x ≤ m → ¬ (most - a) / 2 ^ (7 * k) < x := by
      intro x hx
      have : x * 2 ^ (7 * k) ≤ most - a := by
        have := Nat.mul_le_mul_right (2 ^ (7 * k)) hx
        omega
      have := (Nat.le_div_iff_mul_le hp).2 this
      omega
    by_cases hs : m < 128
    · rw [num_lt hs]
      have e : (BitVec.ofNat 8 m).toNat = m := by rw [BitVec.toNat_ofNat]; omega
      simp only [List.singleton_append, rdN, e, Nat.mod_eq_of_lt hs]
      rw [if_neg, if_pos hs]
      rintro (h | h | ⟨h, h'⟩)
      · omega
      · exact hle m (Nat.le_refl m) h
      · have : m = 0 := by rw [← e, h']; rfl
        omega
    · rw [num_ge hs]
      have e : (BitVec.ofNat 8 (m % 128 + 128)).toNat = m % 128 + 128 := by rw [BitVec.toNat_ofNat]; omega
      simp only [List.cons_append, rdN, e]
      have hk9 : k < 9 := by
        have h128 : 128 * 2 ^ (7 * k) ≤ m * 2 ^ (7 * k) := Nat.mul_le_mul_right _ (by omega)
        have : ¬ k = 9 := by
          rintro rfl
          have : 128 * 2 ^ 63 ≤ m * 2 ^ (7 * 9) := h128
          omega
        omega
      have e2 : (m % 128 + 128) % 128 = m % 128 := by omega
      rw [if_neg, if_neg (by omega), e2]
      · have h128 : 2 ^ (7 * (k + 1)) = 128 * 2 ^ (7 * k) := by rw [Nat.mul_add, Nat.pow_add]; omega
        have hsum : a + m % 128 * 2 ^ (7 * k) + m / 128 * 2 ^ (7 * (k + 1)) = a + m * 2 ^ (7 * k) := by
          rw [h128, Nat.add_assoc, ← Nat.mul_assoc, ← Nat.add_mul]
          congr 2
          omega
        rw [ih (m / 128) (by omega) (k + 1) _ r (by rw [hsum]; exact h1) (.inr (by omega)) (by omega), hsum]
      · rintro (h | h | ⟨h, h'⟩)
        · omega
        · exact hle ((m % 128 + 128) % 128) (by omega) h
        · have : (BitVec.ofNat 8 (m % 128 + 128)).toNat = 0 := by rw [h']; rfl
          omega
theorem num_rdN {most : Nat} : ∀ (bs : List (BitVec 8)) (k a : Nat) (x : Nat × List (BitVec 8)), rdN most bs k a = some x → ∃ m, x.1 = a + m * 2 ^ (7 * k) ∧ bs = num m ++ x.2 ∧ (0 < k → 0 < m) := by
  intro bs
  induction bs with
  | nil => intro k a x h; simp [rdN] at h
  | cons c r ih =>
    intro k a x h
    rw [rdN] at h
    split at h
    · cases h
    · rename_i hc
      split at h
      · rename_i hlt
        cases h
        refine ⟨c.toNat, by simp [Nat.mod_eq_of_lt hlt], ?_, fun hk => ?_⟩
        · rw [num_lt hlt]; simp
        · have : c ≠ 0#8 := fun e => hc (.inr (.inr ⟨hk, e⟩))
          have : c.toNat ≠ 0 := fun e => this (BitVec.eq_of_toNat_eq e)
          omega
      · rename_i hge
        obtain ⟨m, h1, h2, h3⟩ := ih _ _ _ h
        have hm := h3 (by omega)
        refine ⟨c.toNat % 128 + 128 * m, ?_, ?_, fun _ => by omega⟩
        · have h128 : 2 ^ (7 * (k + 1)) = 128 * 2 ^ (7 * k) := by rw [Nat.mul_add, Nat.pow_add]; omega
          rw [h1, h128, Nat.add_mul, ← Nat.mul_assoc, Nat.mul_comm m 128, Nat.add_assoc]
        · have hge2 : ¬ c.toNat % 128 + 128 * m < 128 := by omega
          rw [num_ge hge2, ofNat_byte c hge m]
          have : (c.toNat % 128 + 128 * m) / 128 = m := by omega
          rw [this, h2]
          rfl
theorem leN_leB (x : BitVec 32) : BitVec.ofNat 32 (leN (leB x 4)) = x := by
  have e : leB x 4 = [x.setWidth 8, (x >>> 8).setWidth 8, (x >>> 16).setWidth 8, (x >>> 24).setWidth 8] := by simp [leB, List.range_succ]
  rw [e]
  apply BitVec.eq_of_toNat_eq
  have := x.isLt
  simp only [leN, BitVec.toNat_ofNat, BitVec.toNat_setWidth, BitVec.toNat_ushiftRight, Nat.shiftRight_eq_div_pow]
  omega
theorem leB_leN (a b c d : BitVec 8) : leB (BitVec.ofNat 32 (leN [a, b, c, d])) 4 = [a, b, c, d] := by
  have e : ∀ x : BitVec 32, leB x 4 = [x.setWidth 8, (x >>> 8).setWidth 8, (x >>> 16).setWidth 8, (x >>> 24).setWidth 8] := by intro x; simp [leB, List.range_succ]
  rw [e]
  have := a.isLt
  have := b.isLt
  have := c.isLt
  have := d.isLt
  simp only [List.cons.injEq, and_true]
  refine ⟨?_, ?_, ?_, ?_⟩ <;>
    (apply BitVec.eq_of_toNat_eq
     simp only [leN, BitVec.toNat_ofNat, BitVec.toNat_setWidth, BitVec.toNat_ushiftRight, Nat.shiftRight_eq_div_pow]
     omega)
theorem leB4 (x : BitVec 32) : ∃ a b c d, leB x 4 = [a, b, c, d] := by
  exact ⟨x.setWidth 8, (x >>> 8).setWidth 8, (x >>> 16).setWidth 8, (x >>> 24).setWidth 8, by simp [leB, List.range_succ]⟩
theorem rdW_chg : ∀ (was now : List (BitVec 32)) (r : List (BitVec 8)), now.length = was.length → rdW was (msk now was) (chg now was ++ r) = some (now, r) := by
  intro was
  induction was with
  | nil =>
    intro now r h
    cases now with
    | nil => rfl
    | cons _ _ => simp at h
  | cons w ws ih =>
    intro now r h
    cases now with
    | nil => simp at h
    | cons n ns =>
      have hi := ih ns r (by simpa using h)
      by_cases e : n = w
      · subst e
        simp only [msk, chg, if_true, List.nil_append]
        rw [rdW_0 (by omega)]
        have : (0 + 2 * msk ns ws) / 2 = msk ns ws := by omega
        rw [this, hi]
        rfl
      · simp only [msk, chg, e, if_false]
        obtain ⟨a, b, c, d, e4⟩ := leB4 n
        have hx : BitVec.ofNat 32 (leN [a, b, c, d]) = n := by rw [← e4, leN_leB]
        rw [e4]
        simp only [List.cons_append, List.nil_append]
        rw [rdW_1 (by omega), hx, if_neg e]
        have : (1 + 2 * msk ns ws) / 2 = msk ns ws := by omega
        rw [this, hi]
        rfl
theorem chg_rdW : ∀ (was : List (BitVec 32)) (m : Nat) (bs : List (BitVec 8)) (x : List (BitVec 32) × List (BitVec 8)), rdW was m bs = some x → m < 2 ^ was.length → x.1.length = was.length ∧ bs = chg x.1 was ++ x.2 ∧ m = msk x.1 was := by
  intro was
  induction was with
  | nil =>
    intro m bs x h hm
    simp [rdW] at h
    subst h
    simp at hm
    exact ⟨rfl, rfl, hm⟩
  | cons w ws ih =>
    intro m bs x h hm
    rw [List.length_cons, Nat.pow_succ] at hm
    by_cases h2 : m % 2 = 0
    · rw [rdW_0 h2] at h
      obtain ⟨y, hy, rfl⟩ := Option.map_eq_some_iff.1 h
      obtain ⟨i1, i2, i3⟩ := ih _ _ _ hy (by omega)
      refine ⟨by simp [i1], by simp [chg, ← i2], ?_⟩
      simp only [msk, if_true, ← i3]
      omega
    · match bs with
      | a :: b :: c :: d :: r =>
        rw [rdW_1 h2] at h
        split at h
        · cases h
        · rename_i hne
          obtain ⟨y, hy, rfl⟩ := Option.map_eq_some_iff.1 h
          obtain ⟨i1, i2, i3⟩ := ih _ _ _ hy (by omega)
          refine ⟨by simp [i1], ?_, ?_⟩
          · simp only [chg, hne, if_false, leB_leN]
            simp [← i2]
          · simp only [msk, hne, if_false, ← i3]
            omega
      | [] => rw [rdW_n h2 (by simp)] at h; cases h
      | [_] => rw [rdW_n h2 (by simp)] at h; cases h
      | [_, _] => rw [rdW_n h2 (by simp)] at h; cases h
      | [_, _, _] => rw [rdW_n h2 (by simp)] at h; cases h
end Go.Ab
