/- Contracts of the document's record: what is written. -/
import Derived.Test.YtecfchkmmnphdaaR4
set_option linter.unusedSimpArgs false
set_option linter.unusedVariables false
namespace Go.Ab
open Go.Proofs
variable {G : Glo} {h : Heap}
theorem rRight_spec (e : Evt) : Spec Try.prog G 32 [.agg e.cells] h (Is (.bool e.right) h) := by
  refine Spec.is C32ok rfl ?_
  simp only [push_cast, simprocAttr]
  intro b hb
  simp only [push_cast, simprocAttr, hb, era_none hb, ← bare_cells, evt_eq]
  have h0 : (e.value = 0#32) ↔ e.value.toNat = 0 := by rw [← BitVec.toNat_inj]; rfl
  have h2 : ((e.value.toNat : Int) == 0) = decide (e.value = 0#32) := by rw [Bool.eq_iff_iff, beq_iff_eq, decide_eq_true_eq, h0]; omega
  have h3 : decide ((e.value.toNat : Int) < 256) = decide (e.value.toNat ≤ 255) := decide_eq_decide.2 (by omega)
  refine ⟨fun h1 => ?_, ?_⟩
  · rw [h3, Bool.and_comm]
    simp [Evt.right, h1]
  · intro h1
    cases hv : decide (e.value = 0#32) <;> cases hk : (e.kind == 2) <;> simp [Evt.right, h1, h2, hv] at * <;> simp_all
    all_goals rfl
theorem rNumber43_spec (n : BitVec 64) : Spec Try.prog G 77 [.int .u64 n.toNat] h (Is (byt (num n.toNat)) h) := by
  refine Spec.weak (Q := fun r h' => Own 1 h r (bys (num n.toNat)) (num n.toNat).length h') ?_ ?_
  · refine Spec.walk C77ok rfl ?_
    simp only [push_cast, simprocAttr]
    intro b hb
    refine lpc.rel [0, 3, 4] (fun m ρ h' => ∃ (k : Nat) (x : BitVec 64) (v : AV) (l : List (BitVec 8)), m = 10 - k ∧ k ≤ 9 ∧ x.toNat < 128 ^ (10 - k) ∧ l.length = k ∧ l ++ num x.toNat = num n.toNat ∧ Own 1 h v (bys l) k h' ∧ ρ = [(0, .int .u64 x.toNat), (3, v), (4, .int .i64 k)])
      ⟨_, 0, n, .sl b 0 0 0, [], rfl, by omega, by have := n.isLt; omega, rfl, rfl, .row b 0 0 [] [] 0 hb rfl (by omega), rfl⟩ ?_
    rintro m _ h' ⟨k, x, v, l, rfl, hk, hx, hl, hl2, ho, rfl⟩
    simp only [push_cast, simprocAttr]
    refine ⟨fun hk2 => ⟨fun h1 => ?_, fun h1 => ?_⟩, fun hk2 => absurd hk2 (by omega)⟩
    · have h1 : x.toNat < 128 := by omega
      refine ho.app (m := 1) rfl (by omega) (by omega) fun v' h2 ho2 => ?_
      simp only [push_cast, simprocAttr]
      rw [← hl2, num_lt h1, BitVec.ofNat_toNat]
      simpa [bys_app, bys, hl] using ho2
    · have h1 : ¬ x.toNat < 128 := by omega
      have e1 : BitVec.setWidth 8 (BitVec.ofInt 64 ((x.toNat : Int).tmod 128 + 128)) = BitVec.ofNat 8 (x.toNat % 128 + 128) := by
        have : (x.toNat : Int).tmod 128 + 128 = ((x.toNat % 128 + 128 : Nat) : Int) := rfl
        rw [this, BitVec.ofInt_natCast]
        apply BitVec.eq_of_toNat_eq
        simp only [BitVec.toNat_setWidth, BitVec.toNat_ofNat]
        omega
      have e2 : BitVec.ofInt 64 ((x.toNat : Int).tdiv 128) = x >>> 7 := by
        have : (x.toNat : Int).tdiv 128 = ((x.toNat / 128 : Nat) : Int) := rfl
        rw [this, BitVec.ofInt_natCast]
        apply BitVec.eq_of_toNat_eq
        simp only [BitVec.toNat_ofNat, BitVec.toNat_ushiftRight, Nat.shiftRight_eq_div_pow]
        have := x.isLt
        omega
      have e3 : (x >>> 7).toNat = x.toNat / 128 := by simp [Nat.shiftRight_eq_div_pow]
      rw [e1]
      refine ho.app (m := 1) rfl (by omega) (by omega) fun v' h2 ho2 => ?_
      simp (disch := omega) only [push_cast, simprocAttr, wrap_i64, toNat_ofInt64, Nat.min_eq_left, Int.toNat_of_nonneg, e2]
      have hk9 : k ≠ 9 := by
        rintro rfl
        simp at hx
        omega
      refine ⟨_, _, by omega, .refl _, k + 1, x >>> 7, v', l ++ [BitVec.ofNat 8 (x.toNat % 128 + 128)], rfl, by omega, ?_, by simp [hl], ?_, by simpa [bys_app, bys] using ho2, rfl⟩
      · rw [e3]
        have : 10 - k = (10 - (k + 1)) + 1 := by omega
        rw [this, Nat.pow_succ] at hx
        omega
      · rw [← hl2, e3, num_ge h1]
        simp
  · rintro _ h' ho
    exact ⟨_, _, ⟨rfl, rfl⟩, ho.freeze⟩
theorem rMask_spec (now was : List (BitVec 32)) (n : Nat) (h1 : now.length = n) (h2 : was.length = n) (h32 : n ≤ 32) :
    Spec Try.prog G 78 [.ro (wds now) n, .ro (wds was) n] h (Is (.int .u64 (BitVec.ofNat 64 (msk now was)).toNat) h) := by
  subst h1
  refine Spec.is C78ok rfl ?_
  simp only [push_cast, simprocAttr]
  refine lpc.rel [0, 1, 5, 6] (fun m ρ h' => ∃ k, m = now.length - k ∧ k ≤ now.length ∧ h' = h ∧ ρ = [(0, .ro (wds now) now.length), (1, .ro (wds was) now.length), (5, .int .u64 (BitVec.ofNat 64 (msk (now.take k) (was.take k))).toNat), (6, .int .i64 k)]) ⟨_, 0, rfl, by omega, rfl, by simp [msk]; rfl⟩ ?_
  rintro m _ _ ⟨k, rfl, hk, rfl, rfl⟩
  simp only [push_cast, simprocAttr, Bool.and_self]
  refine ⟨fun hk2 => ?_, fun hk2 => ?_⟩
  · have hk3 : k < was.length := by omega
    simp (disch := omega) only [push_cast, simprocAttr, wrap_i64, toNat_ofInt64, Nat.min_eq_left, Int.toNat_of_nonneg, hk2, hk3]
    have hms := msk_snoc (now.take k) (was.take k) (now.getD k 0#32) (was.getD k 0#32) (by simp; omega)
    rw [← take_snoc now k hk2, ← take_snoc was k hk3, List.length_take, Nat.min_eq_left hk] at hms
    refine ⟨fun he => ?_, fun he => ?_⟩
    · rw [if_neg he] at hms
      refine (Power_spec k (by omega)).to ?_
      have e : BitVec.ofNat 64 (msk (now.take k) (was.take k)) + BitVec.ofInt 64 (2 ^ k) = BitVec.ofNat 64 (msk (now.take (k + 1)) (was.take (k + 1))) := by
        have h2 : BitVec.ofInt 64 (2 ^ k) = BitVec.ofNat 64 (2 ^ k) := by rw [← BitVec.ofInt_natCast]; simp
        rw [h2, hms, BitVec.ofNat_add]
      simp (disch := omega) only [push_cast, simprocAttr, wrap_i64, toNat_ofInt64, Nat.min_eq_left, Int.toNat_of_nonneg, e]
      exact ⟨_, _, by omega, .refl _, k + 1, rfl, by omega, rfl, rfl⟩
    · rw [if_pos he] at hms
      exact ⟨_, _, by omega, .refl _, k + 1, rfl, by omega, rfl, by rw [hms]; rfl⟩
  · have hk1 : k = now.length := by omega
    subst hk1
    rw [List.take_length, List.take_of_length_le (by omega)]
theorem rchanged_spec (now was : List (BitVec 32)) (n : Nat) (h1 : now.length = n) (h2 : was.length = n) (h32 : n ≤ 32) :
    Spec Try.prog G 79 [.ro (wds now) n, .ro (wds was) n] h (Is (byt (chg now was)) h) := by
  subst h1
  refine Spec.weak (Q := fun r h' => Own 1 h r (bys (chg now was)) (chg now was).length h') ?_ ?_
  · refine Spec.walk C79ok rfl ?_
    simp only [push_cast, simprocAttr]
    intro b hb
    refine lpc.rel [0, 1, 5, 6] (fun m ρ h' => ∃ (k : Nat) (v : AV), m = now.length - k ∧ k ≤ now.length ∧ Own 1 h v (bys (chg (now.take k) (was.take k))) (chg (now.take k) (was.take k)).length h' ∧ ρ = [(0, .ro (wds now) now.length), (1, .ro (wds was) now.length), (5, v), (6, .int .i64 k)]) ⟨_, 0, .sl b 0 0 0, rfl, by omega, .row b 0 0 [] [] 0 hb rfl (by omega), rfl⟩ ?_
    rintro m _ h' ⟨k, v, rfl, hk, ho, rfl⟩
    simp only [push_cast, simprocAttr, Bool.and_self]
    refine ⟨fun hk2 => ?_, fun hk2 => ?_⟩
    · have hk3 : k < was.length := by omega
      have hcl := chg_len (now.take k) (was.take k)
      rw [List.length_take, Nat.min_eq_left hk] at hcl
      have hch := chg_snoc (now.take k) (was.take k) (now.getD k 0#32) (was.getD k 0#32) (by simp; omega)
      rw [← take_snoc now k hk2, ← take_snoc was k hk3] at hch
      simp (disch := omega) only [push_cast, simprocAttr, wrap_i64, toNat_ofInt64, Nat.min_eq_left, Int.toNat_of_nonneg, hk2, hk3]
      refine ⟨fun he => ?_, fun he => ?_⟩
      · rw [if_neg he] at hch
        refine (rBytes_spec (now.getD k 0#32) 4 (by omega)).to ?_
        simp (disch := omega) only [push_cast, simprocAttr, wrap_i64, toNat_ofInt64, Nat.min_eq_left, Int.toNat_of_nonneg, byt, leB_len]
        refine ho.app (m := 4) (by simp [bys, leB_len]) (by omega) (by omega) fun v' h2 ho2 => ?_
        simp (disch := omega) only [push_cast, simprocAttr, wrap_i64, toNat_ofInt64, Nat.min_eq_left, Int.toNat_of_nonneg]
        exact ⟨_, _, by omega, .refl _, k + 1, v', rfl, by omega, by rw [hch]; simpa [bys_app, leB_len] using ho2, rfl⟩
      · rw [if_pos he, List.append_nil] at hch
        exact ⟨_, _, by omega, .refl _, k + 1, v, rfl, by omega, by rw [hch]; exact ho, rfl⟩
    · have hk1 : k = now.length := by omega
      subst hk1
      rw [List.take_length, List.take_of_length_le (by omega)] at ho
      exact ho
  · rintro _ h' ho
    exact ⟨_, _, ⟨rfl, rfl⟩, ho.freeze⟩
theorem rKept_spec (k : Kp) : Spec Try.prog G 80 [.agg (wds k.l)] h (Is (.ro (wds k.l) 7) h) := by
  refine Spec.is C80ok rfl ?_
  simp only [push_cast, simprocAttr, Kp.l, wds]
end Go.Ab
