/- Events written are read as they were, and the other way about: plain law. -/
import Derived.Test.YtecfchkmmnphdaaRp
import Derived.Test.YtecfchkmmnphdaaR4
set_option linter.unusedVariables false
set_option linter.unusedSimpArgs false
namespace Go.Ab
theorem rd0 (most : Nat) (hm : most < 2 ^ 64) (m : Nat) (r : List (BitVec 8)) (h : m ≤ most) : rdN most (num m ++ r) 0 0 = some (m, r) := by
  have := rdN_num most hm m 0 0 r (by simpa using h) (.inl rfl) (by omega)
  simpa using this
theorem rd0' {most : Nat} {bs : List (BitVec 8)} {x : Nat × List (BitVec 8)} (h : rdN most bs 0 0 = some x) : bs = num x.1 ++ x.2 ∧ x.1 ≤ most := by
  obtain ⟨m, h1, h2, _⟩ := num_rdN _ _ _ _ h
  simp at h1
  rw [h1]
  exact ⟨h2, by rw [← h1]; exact (rdN_le _ _ _ _ h (by omega)).1⟩
theorem num32 (x : BitVec 32) (r : List (BitVec 8)) : rdN 4294967295 (num x.toNat ++ r) 0 0 = some (x.toNat, r) := rd0 _ (by omega) _ _ (by have := x.isLt; omega)
theorem ofNat32 (x : BitVec 32) : BitVec.ofNat 32 x.toNat = x := by simp
theorem rdT_trapB (e e0 : Evt) (p : Past) (r : List (BitVec 8)) : rdT e0 p (trapB e p ++ r) = some ({ e0 with cause := e.cause, epc := e.epc, tval := e.tval, regs := e.regs, csrs := e.csrs }, r) := by
  have m1 : msk e.regs.toList p.regs.toList < 2 ^ 32 := by have := msk_lt e.regs.toList p.regs.toList; rwa [Vector.length_toList] at this
  have m2 : msk e.csrs.l p.kept.l < 2 ^ 7 := msk_lt e.csrs.l p.kept.l
  have c1 : (BitVec.ofNat 8 (msk e.csrs.l p.kept.l)).toNat = msk e.csrs.l p.kept.l := by rw [BitVec.toNat_ofNat]; omega
  simp only [trapB, List.append_assoc, rdT, Option.bind_eq_bind]
  rw [num32]
  simp only [Option.bind_some]
  rw [num32]
  simp only [Option.bind_some]
  rw [num32]
  simp only [Option.bind_some]
  rw [rd0 _ (by omega) _ _ (by omega)]
  simp only [Option.bind_some]
  rw [rdW_chg _ _ _ (by simp)]
  simp only [Option.bind_some, List.singleton_append, c1]
  rw [if_neg (by omega), rdW_chg _ _ _ (by simp [Kp.l])]
  simp only [Option.bind_some, ofNat32, Rg.of_toList, Kp.of_self]
theorem trapB_rdT {e0 : Evt} {p : Past} {bs : List (BitVec 8)} {x : Evt × List (BitVec 8)} (h : rdT e0 p bs = some x) : bs = trapB x.1 p ++ x.2 := by
  simp only [rdT, Option.bind_eq_bind, Option.bind_eq_some_iff] at h
  obtain ⟨y1, h1, y2, h2, y3, h3, y4, h4, y5, h5, h⟩ := h
  obtain ⟨q1, l1⟩ := rd0' h1
  obtain ⟨q2, l2⟩ := rd0' h2
  obtain ⟨q3, l3⟩ := rd0' h3
  obtain ⟨q4, l4⟩ := rd0' h4
  obtain ⟨w1, w2, w3⟩ := chg_rdW _ _ _ _ h5 (by rw [Vector.length_toList]; omega)
  rw [Vector.length_toList] at w1
  have n32 : ∀ y : Nat, y ≤ 4294967295 → (BitVec.ofNat 32 y).toNat = y := fun y hy => by rw [BitVec.toNat_ofNat]; omega
  split at h
  · cases h
  · rename_i c b6 hb5
    split at h
    · cases h
    · rename_i hc
      simp only [Option.bind_eq_some_iff] at h
      obtain ⟨y7, h7, h⟩ := h
      cases h
      obtain ⟨v1, v2, v3⟩ := chg_rdW _ _ _ _ h7 (by rw [Kp.l_len]; omega)
      rw [Kp.l_len] at v1
      simp only [trapB, n32 _ l1, n32 _ l2, n32 _ l3, Rg.of_l _ w1, Kp.of_l _ v1, ← w3, ← v3, List.append_assoc]
      rw [q1, q2, q3, q4, w2, hb5, v2]
      have : BitVec.ofNat 8 c.toNat = c := by simp
      simp [this]
theorem tick_sub (a b : BitVec 64) (h : b.toNat ≤ a.toNat) : (a - b).toNat = a.toNat - b.toNat := by
  have := a.isLt
  rw [BitVec.toNat_sub]
  omega
theorem rdE_evB (e : Evt) (p : Past) (r : List (BitVec 8)) (hr : e.right = true) (ht : p.tick.toNat ≤ e.tick.toNat) : rdE p (evB e p ++ r) = some (e, r) := by
  have hts := tick_sub e.tick p.tick ht
  have := e.tick.isLt
  have htk : BitVec.ofNat 64 (p.tick.toNat + (e.tick.toNat - p.tick.toNat)) = e.tick := by
    rw [show p.tick.toNat + (e.tick.toNat - p.tick.toNat) = e.tick.toNat by omega]; simp
  simp only [evB, List.cons_append, List.append_assoc, rdE, Option.bind_eq_bind, hts]
  rw [rd0 _ (by omega) _ _ (by omega)]
  simp only [Option.bind_some, htk]
  simp only [Evt.right] at hr
  split at hr
  · rename_i hk
    simp only [Bool.and_eq_true, decide_eq_true_eq] at hr
    obtain ⟨hv, hb⟩ := hr
    have hc : (BitVec.ofInt 8 e.kind).toNat = 1 := by rw [hk]; rfl
    simp only [hc, hk, if_true, List.singleton_append]
    have hv2 : (e.value.setWidth 8).setWidth 32 = e.value := by
      apply BitVec.eq_of_toNat_eq
      rw [sw32_8, BitVec.toNat_setWidth]
      omega
    rw [hv2]
    conv => rhs; rw [hb]
    simp [Evt.bare, hk]
  · rename_i hk
    split at hr
    · rename_i hk2
      simp only [decide_eq_true_eq] at hr
      have hc : (BitVec.ofInt 8 e.kind).toNat = 2 := by rw [hk2]; rfl
      simp only [hc, hk2]
      simp only [Nat.reduceEqDiff, Int.reduceEq, if_false, if_true]
      rw [rdT_trapB]
      obtain ⟨k, t, v, c1, c2, c3, rg, cs⟩ := e
      simp only at hr hk2
      subst hr
      subst hk2
      rfl
    · split at hr
      · rename_i hk3
        simp only [decide_eq_true_eq] at hr
        have hc : (BitVec.ofInt 8 e.kind).toNat = 3 := by rw [hk3]; rfl
        simp only [hc, hk3]
        simp only [Nat.reduceEqDiff, Int.reduceEq, if_false, if_true]
        rw [num32]
        simp only [Option.bind_some, ofNat32]
        conv => rhs; rw [hr]
        simp [Evt.bare, hk3]
      · cases hr
theorem evB_rdE {p : Past} {bs : List (BitVec 8)} {x : Evt × List (BitVec 8)} (h : rdE p bs = some x) : x.1.right = true ∧ p.tick.toNat ≤ x.1.tick.toNat ∧ bs = evB x.1 p ++ x.2 := by
  cases bs with
  | nil => cases h
  | cons c b1 =>
    simp only [rdE, Option.bind_eq_bind, Option.bind_eq_some_iff] at h
    obtain ⟨y, h1, h⟩ := h
    obtain ⟨q1, l1⟩ := rd0' h1
    have := p.tick.isLt
    have ht : (BitVec.ofNat 64 (p.tick.toNat + y.1)).toNat = p.tick.toNat + y.1 := by rw [BitVec.toNat_ofNat]; omega
    have hd : (BitVec.ofNat 64 (p.tick.toNat + y.1) - p.tick).toNat = y.1 := by rw [tick_sub _ _ (by omega), ht]; omega
    have hc8 : BitVec.ofInt 8 (c.toNat : Int) = c := by rw [ofInt_toNat]; simp
    split at h
    · rename_i hk
      split at h
      · cases h
      · rename_i v b3 hb2
        cases h
        refine ⟨?_, by simp only [ht]; omega, ?_⟩
        · have := v.isLt
          simp [Evt.right, Evt.bare, hk, sw32_8]
          omega
        · have e8 : BitVec.setWidth 8 (BitVec.setWidth 32 v) = v := by
            apply BitVec.eq_of_toNat_eq
            rw [BitVec.toNat_setWidth, sw32_8]
            have := v.isLt
            omega
          have hki : (c.toNat : Int) = 1 := by omega
          simp only [evB, hd, hki, if_true, e8]
          rw [q1, hb2, ← hki, hc8]
          simp
    · rename_i hk1
      split at h
      · rename_i hk
        obtain ⟨z, h2, h⟩ := Option.bind_eq_some_iff.1 h
        cases h
        obtain ⟨q2, l2⟩ := rd0' h2
        have n32 : (BitVec.ofNat 32 z.1).toNat = z.1 := by rw [BitVec.toNat_ofNat]; omega
        have hki : (c.toNat : Int) = 3 := by omega
        refine ⟨by simp [Evt.right, Evt.bare, hk], by simp only [ht]; omega, ?_⟩
        simp only [evB, hd, hki, n32]
        simp only [Int.reduceEq, if_false, if_true]
        rw [q1, q2, ← hki, hc8]
        simp
      · split at h
        · rename_i hk
          have hki : (c.toNat : Int) = 2 := by omega
          obtain ⟨k1, k2, k3⟩ := rdT_kind h
          have q2 := trapB_rdT h
          simp only at k1 k2 k3
          refine ⟨?_, by rw [k2, ht]; omega, ?_⟩
          · simp [Evt.right, k1, hk, k3]
          · simp only [evB, k1, k2, hd, hki]
            simp only [Int.reduceEq, if_false]
            rw [q1, q2, ← hki, hc8]
            simp
        · cases h
theorem rdA_wr : ∀ (l : List Evt) (p : Past) (bs : List (BitVec 8)) (n : Nat), wr l p = some bs → l.length ≤ n → rdA n bs p = (0, l) := by
  intro l
  induction l with
  | nil => intro p bs n h _; simp [wr] at h; subst h; exact rdA_nil n p
  | cons e l ih =>
    intro p bs n h hn
    simp only [wr] at h
    split at h
    · rename_i hc
      obtain ⟨b2, h2, rfl⟩ := Option.map_eq_some_iff.1 h
      obtain ⟨n, rfl⟩ : ∃ k, n = k + 1 := ⟨n - 1, by simp at hn; omega⟩
      rw [rdA_some (by simp [evB]) (rdE_evB e p b2 hc.1 hc.2), ih _ _ _ h2 (by simpa using hn)]
    · cases h
theorem wr_rdA : ∀ (n : Nat) (bs : List (BitVec 8)) (p : Past), (rdA n bs p).1 = 0 → wr (rdA n bs p).2 p = some bs ∧ (rdA n bs p).2.length ≤ n := by
  intro n
  induction n with
  | zero =>
    intro bs p h
    simp only [rdA] at h ⊢
    split at h
    · rename_i e; simp [e, wr]
    · cases h
  | succ n ih =>
    intro bs p h
    by_cases hb : bs = []
    · subst hb; simp [rdA_nil, wr]
    · cases he : rdE p bs with
      | none => rw [rdA_none hb he] at h; cases h
      | some x =>
        rw [rdA_some hb he] at h ⊢
        obtain ⟨i1, i2⟩ := ih _ _ h
        obtain ⟨g1, g2, g3⟩ := evB_rdE he
        simp only [wr, g1, g2, and_self, if_true, i1, Option.map_some, List.length_cons]
        exact ⟨by rw [← g3], by omega⟩
theorem read_write (l : List Evt) (h : writeE l = 0) : readE (writeB l) = 0 ∧ readL (writeB l) = l := by
  simp only [writeE] at h
  split at h
  · cases h
  · rename_i hl
    split at h
    · rename_i hs
      obtain ⟨bs, hb⟩ := Option.isSome_iff_exists.1 hs
      have hw : writeB l = bs := by simp [writeB, hl, hb]
      have := rdA_wr l _ bs 4096 hb (by omega)
      have he : readE (writeB l) = 0 := by rw [readE, hw, this]
      exact ⟨he, by rw [readL, if_pos he, hw, this]⟩
    · cases h
theorem write_read (bs : List (BitVec 8)) (h : readE bs = 0) : writeE (readL bs) = 0 ∧ writeB (readL bs) = bs := by
  obtain ⟨h1, h2⟩ := wr_rdA 4096 bs Past.zero h
  have hl : readL bs = (rdA 4096 bs Past.zero).2 := by rw [readL, if_pos h]
  rw [← hl] at h1 h2
  have h1 : writeM (readL bs) = some bs := h1
  exact ⟨by rw [writeE, if_neg (by omega), h1]; rfl, by rw [writeB, if_neg (by omega), h1]; rfl⟩
end Go.Ab
