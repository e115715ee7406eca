/- Contracts of packages word, mimesisref01: bytes of words. -/
import Derived.Test.YtglanajcilfpcaaDoorRm
import Derived.Test.YtglanajcilfpcaaDoorC26
set_option linter.unusedSimpArgs false
set_option linter.unusedVariables false
namespace Go.Ab
open Go.Proofs
variable {G : Glo} {h : Heap}
theorem width_spec (n : Int) : Spec Tryd.prog G 115 [.int .i64 n] h (Is (.bool (n == 1 || n == 2 || n == 4)) h) := by
  refine Spec.is C115ok rfl ?_
  simp only [push_cast, simprocAttr]
theorem Le.tup1 {r r' : AV} {h h' : Heap} {k : IntKind} {x : Int} (hl : Le r h r' h') : Le (.tup [r, .int k x]) h (.tup [r', .int k x]) h' := by
  intro w v hw hr
  obtain ⟨cs, rfl, hl1, hr1⟩ := rep_tup hr
  obtain ⟨a, b, rfl⟩ : ∃ a b, cs = #[a, b] := by
    match cs, hl1 with
    | ⟨[a, b]⟩, _ => exact ⟨a, b, rfl⟩
  obtain ⟨x1, x2, x3⟩ := hl w a hw (hr1 0 r a rfl rfl)
  refine ⟨x1, .tup _ _ rfl fun i u c h1 h2 => ?_, x3⟩
  match i with
  | 0 => simp at h1 h2; subst h1; subst h2; exact x2
  | 1 =>
    simp at h1 h2; subst h1; subst h2
    have := hr1 1 (.int k x) b rfl rfl
    rw [rep_int this]; exact .int _ _
  | i + 2 => simp at h1
/-- 2 to the power of n. -/
theorem Power_spec (n : Nat) (hn : n ≤ 63) : Spec Tryd.prog G 74 [.int .i64 n] h (Is (.int .u64 ((2 ^ n : Nat) : Int)) h) := by
  refine Spec.is C74ok rfl ?_
  simp only [push_cast, simprocAttr]
  refine lpc.rel [0, 3, 4] (fun m ρ h' => ∃ k, m = n - k ∧ k ≤ n ∧ h' = h ∧ ρ = [(0, .int .i64 n), (3, .int .u64 ((2 ^ k : Nat) : Int)), (4, .int .i64 k)]) ⟨n, 0, rfl, by omega, rfl, rfl⟩ ?_
  rintro m _ _ ⟨k, rfl, hk, rfl, rfl⟩
  simp only [push_cast, simprocAttr]
  refine ⟨fun hk2 => ?_, fun hk2 => ?_⟩
  · have e : (BitVec.ofInt 64 (2 ^ k * 2)).toNat = 2 ^ (k + 1) := by
      have : 2 ^ (k + 1) ≤ 2 ^ 63 := Nat.pow_le_pow_right (by omega) (by omega)
      have e2 : ((2 : Int) ^ k * 2) = ((2 ^ (k + 1) : Nat) : Int) := by push_cast; rw [Int.pow_succ]
      rw [e2, BitVec.ofInt_natCast, BitVec.toNat_ofNat, Nat.mod_eq_of_lt (by omega)]
    simp (disch := omega) only [push_cast, simprocAttr, wrap_i64, toNat_ofInt64, Nat.min_eq_left, Int.toNat_of_nonneg, e]
    exact ⟨_, _, by omega, .refl _, k + 1, rfl, by omega, rfl, by push_cast; rfl⟩
  · obtain rfl : k = n := by omega
    trivial
theorem leN_take (bs : List (BitVec 8)) (k : Nat) (hk : k < bs.length) : leN (bs.take (k + 1)) = leN (bs.take k) + 256 ^ k * (bs.getD k 0#8).toNat := by
  rw [List.take_add_one, List.getElem?_eq_getElem hk, leN_app]
  simp [leN, Nat.min_eq_left (Nat.le_of_lt hk), hk]
theorem pow256 (k : Nat) : 256 ^ k = 2 ^ (8 * k) := by rw [Nat.pow_mul]
theorem Number_spec (bs : List (BitVec 8)) (hn : bs.length = 1 ∨ bs.length = 2 ∨ bs.length = 4) : Spec Tryd.prog G 102 [byt bs] h (Is (.tup [.int .u32 (BitVec.ofNat 32 (leN bs)).toNat, .int .i64 0]) h) := by
  refine Spec.is C102ok rfl ?_
  simp only [push_cast, simprocAttr, byt]
  refine (width_spec bs.length).to ?_
  have hb : ((bs.length : Int) == 1 || (bs.length : Int) == 2 || (bs.length : Int) == 4) = true := by rcases hn with h | h | h <;> rw [h] <;> rfl
  simp only [push_cast, simprocAttr, hb]
  refine lpc.rel [0, 4, 11, 12] (fun m ρ h' => ∃ k, m = bs.length - k ∧ k ≤ bs.length ∧ h' = h ∧ ρ = [(0, byt bs), (4, .int .u32 (BitVec.ofNat 32 (leN (bs.take k))).toNat), (11, .int .i64 bs.length), (12, .int .i64 k)]) ⟨bs.length, 0, rfl, by omega, rfl, rfl⟩ ?_
  rintro m _ _ ⟨k, rfl, hk, rfl, rfl⟩
  simp only [push_cast, simprocAttr, byt]
  refine ⟨fun hk2 => ?_, fun hk2 => ?_⟩
  · have e8 : (8 * (k : Int)).toNat = 8 * k := by omega
    simp (disch := omega) only [push_cast, simprocAttr, wrap_i64, toNat_ofInt64, Nat.min_eq_left, Int.toNat_of_nonneg, e8, hk2]
    have e : BitVec.ofNat 32 (leN (bs.take k)) ||| BitVec.setWidth 32 (bs.getD k 0#8) <<< (8 * k) = BitVec.ofNat 32 (leN (bs.take (k + 1))) := by
      have h1 : BitVec.setWidth 32 (bs.getD k 0#8) = BitVec.ofNat 32 (bs.getD k 0#8).toNat := by rw [BitVec.ofNat_toNat]
      have h2 := leN_lt (bs.take k)
      rw [List.length_take, Nat.min_eq_left hk, pow256] at h2
      rw [h1, or_shl _ _ _ h2, leN_take bs k hk2, pow256]
    rw [e]
    exact ⟨_, _, by omega, .refl _, k + 1, rfl, by omega, rfl, rfl⟩
  · obtain rfl : k = bs.length := by omega
    simp
theorem rNumber_spec (bs : List (BitVec 8)) (hn : bs.length ≤ 4) : Spec Tryd.prog G 51 [byt bs] h (Is (.int .u32 (BitVec.ofNat 32 (leN bs)).toNat) h) := by
  refine Spec.is C51ok rfl ?_
  simp only [push_cast, simprocAttr, byt]
  refine lpc.rel [0, 3, 4] (fun m ρ h' => ∃ k, m = bs.length - k ∧ k ≤ bs.length ∧ h' = h ∧ ρ = [(0, byt bs), (3, .int .u64 (BitVec.ofNat 64 (leN (bs.take k))).toNat), (4, .int .i64 k)]) ⟨bs.length, 0, rfl, by omega, rfl, rfl⟩ ?_
  rintro m _ _ ⟨k, rfl, hk, rfl, rfl⟩
  simp only [push_cast, simprocAttr, byt]
  refine ⟨fun hk2 => ?_, fun hk2 => ?_⟩
  · simp (disch := omega) only [push_cast, simprocAttr, wrap_i64, toNat_ofInt64, Nat.min_eq_left, Int.toNat_of_nonneg, hk2]
    refine (Power_spec (8 * k) (by omega)).to ?_
    simp (disch := omega) only [push_cast, simprocAttr, wrap_i64, toNat_ofInt64, Nat.min_eq_left, Int.toNat_of_nonneg, hk2]
    have e : BitVec.ofNat 64 (leN (bs.take k)) + BitVec.setWidth 64 (bs.getD k 0#8) <<< (8 * k) = BitVec.ofNat 64 (leN (bs.take (k + 1))) := by
      have h1 : BitVec.setWidth 64 (bs.getD k 0#8) = BitVec.ofNat 64 (bs.getD k 0#8).toNat := by rw [BitVec.ofNat_toNat]
      have h2 : BitVec.ofNat 64 (bs.getD k 0#8).toNat <<< (8 * k) = BitVec.ofNat 64 (2 ^ (8 * k) * (bs.getD k 0#8).toNat) := by
        apply BitVec.eq_of_toNat_eq
        simp only [BitVec.toNat_shiftLeft, BitVec.toNat_ofNat, Nat.shiftLeft_eq, Nat.mod_mul_mod]
        rw [Nat.mul_comm]
      rw [h1, h2, leN_take bs k hk2, pow256, ← BitVec.ofNat_add]
    rw [e]
    exact ⟨_, _, by omega, .refl _, k + 1, rfl, by omega, rfl, rfl⟩
  · obtain rfl : k = bs.length := by omega
    have h2 := leN_lt bs
    have h3 : 256 ^ bs.length ≤ 256 ^ 4 := Nat.pow_le_pow_right (by omega) hn
    simp
end Go.Ab
