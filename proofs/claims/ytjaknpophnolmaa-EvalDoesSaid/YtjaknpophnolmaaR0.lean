/- Contracts of packages word, mimesisref01: bytes of words. -/
import Derived.Test.YtjaknpophnolmaaRm
import Derived.Test.YtjaknpophnolmaaC24
import Derived.Test.YtjaknpophnolmaaC241
set_option linter.unusedSimpArgs false
set_option linter.unusedVariables false
namespace Go.Ab
open Go.Proofs
variable {G : Glo} {h : Heap}
theorem width_spec (n : Int) : Spec Try.prog G 103 [.int .i64 n] h (Is (.bool (n == 1 || n == 2 || n == 4)) h) := by
  refine Spec.is C103ok rfl ?_
  simp only [push_cast, simprocAttr]
theorem Le.tup1 {r r' : AV} {h h' : Heap} {k : IntKind} {x : Int} (hl : Le r h r' h') : Le (.tup [r, .int k x]) h (.tup [r', .int k x]) h' := by
  intro w v hw hr
  obtain ⟨cs, rfl, hl1, hr1⟩ := rep_tup hr
  obtain ⟨a, b, rfl⟩ : ∃ a b, cs = #[a, b] := by
    match cs, hl1 with
    | ⟨[a, b]⟩, _ => exact ⟨a, b, rfl⟩
  obtain ⟨x1, x2, x3⟩ := hl w a hw (hr1 0 r a rfl rfl)
  refine ⟨x1, .tup _ _ rfl fun i u c h1 h2 => ?_, x3⟩
  match i with
  | 0 => simp at h1 h2; subst h1; subst h2; exact x2
  | 1 =>
    simp at h1 h2; subst h1; subst h2
    have := hr1 1 (.int k x) b rfl rfl
    rw [rep_int this]; exact .int _ _
  | i + 2 => simp at h1
theorem Bytes_spec (w : BitVec 32) (n : Nat) (hn : n = 1 ∨ n = 2 ∨ n = 4) : Spec Try.prog G 99 [.int .u32 w.toNat, .int .i64 n] h (Is (.tup [byt (leB w n), .int .i64 0]) h) := by
  refine Spec.weak (Q := fun r h' => ∃ v, r = .tup [v, .int .i64 0] ∧ Own 1 h v (bys (leB w n)) n h') ?_ ?_
  · refine Spec.walk C99ok rfl ?_
    simp only [push_cast, simprocAttr]
    refine (width_spec n).to ?_
    have hb : ((n : Int) == 1 || (n : Int) == 2 || (n : Int) == 4) = true := by rcases hn with rfl | rfl | rfl <;> rfl
    simp only [push_cast, simprocAttr, hb]
    refine lpc.rel [0, 6, 11, 12] (fun m ρ h' => ∃ k v, m = n - k ∧ k ≤ n ∧ Own 1 h v (bys (leB w k)) k h' ∧ ρ = [(0, .int .u32 w.toNat), (6, v), (11, .int .i64 n), (12, .int .i64 k)]) ⟨n, 0, .nils, rfl, by omega, .nil, rfl⟩ ?_
    rintro m _ h' ⟨k, v, rfl, hk, ho, rfl⟩
    simp only [push_cast, simprocAttr]
    refine ⟨fun hk2 => ?_, fun hk2 => ?_⟩
    · have e8 : (8 * (k : Int)).toNat = 8 * k := by omega
      simp (disch := omega) only [push_cast, simprocAttr, wrap_i64, toNat_ofInt64, Nat.min_eq_left, Int.toNat_of_nonneg, e8]
      refine ho.app (m := 1) rfl (by omega) (by omega) fun v' h2 ho2 => ?_
      simp (disch := omega) only [push_cast, simprocAttr, wrap_i64, toNat_ofInt64, Nat.min_eq_left, Int.toNat_of_nonneg]
      exact ⟨_, _, by omega, .refl _, k + 1, v', rfl, by omega, by rw [leB_succ, bys_app]; exact ho2, rfl⟩
    · obtain rfl : k = n := by omega
      exact ⟨_, rfl, ho⟩
  · rintro _ h' ⟨v, rfl, ho⟩
    exact ⟨_, _, ⟨rfl, rfl⟩, by
      have := ho.freeze
      have := Le.tup1 (k := .i64) (x := 0) this
      simpa [byt, leB] using this⟩
/-- 2 to the power of n. -/
theorem Power_spec (n : Nat) (hn : n ≤ 63) : Spec Try.prog G 60 [.int .i64 n] h (Is (.int .u64 ((2 ^ n : Nat) : Int)) h) := by
  refine Spec.is C60ok rfl ?_
  simp only [push_cast, simprocAttr]
  refine lpc.rel [0, 3, 4] (fun m ρ h' => ∃ k, m = n - k ∧ k ≤ n ∧ h' = h ∧ ρ = [(0, .int .i64 n), (3, .int .u64 ((2 ^ k : Nat) : Int)), (4, .int .i64 k)]) ⟨n, 0, rfl, by omega, rfl, rfl⟩ ?_
  rintro m _ _ ⟨k, rfl, hk, rfl, rfl⟩
  simp only [push_cast, simprocAttr]
  refine ⟨fun hk2 => ?_, fun hk2 => ?_⟩
  · have e : (BitVec.ofInt 64 (2 ^ k * 2)).toNat = 2 ^ (k + 1) := by
      have : 2 ^ (k + 1) ≤ 2 ^ 63 := Nat.pow_le_pow_right (by omega) (by omega)
      have e2 : ((2 : Int) ^ k * 2) = ((2 ^ (k + 1) : Nat) : Int) := by push_cast; rw [Int.pow_succ]
      rw [e2, BitVec.ofInt_natCast, BitVec.toNat_ofNat, Nat.mod_eq_of_lt (by omega)]
    simp (disch := omega) only [push_cast, simprocAttr, wrap_i64, toNat_ofInt64, Nat.min_eq_left, Int.toNat_of_nonneg, e]
    exact ⟨_, _, by omega, .refl _, k + 1, rfl, by omega, rfl, by push_cast; rfl⟩
  · obtain rfl : k = n := by omega
    trivial
theorem rBytes_spec (w : BitVec 32) (n : Nat) (hn : n ≤ 4) : Spec Try.prog G 73 [.int .u32 w.toNat, .int .i64 n] h (Is (byt (leB w n)) h) := by
  refine Spec.weak (Q := fun r h' => Own 1 h r (bys (leB w n)) n h') ?_ ?_
  · refine Spec.walk C73ok rfl ?_
    simp only [push_cast, simprocAttr]
    intro b hb
    refine lpc.rel [0, 1, 5, 6] (fun m ρ h' => ∃ k v, m = n - k ∧ k ≤ n ∧ Own 1 h v (bys (leB w k)) k h' ∧ ρ = [(0, .int .u32 w.toNat), (1, .int .i64 n), (5, v), (6, .int .i64 k)]) ⟨n, 0, .sl b 0 0 0, rfl, by omega, .row b 0 0 [] [] 0 hb rfl (by omega), rfl⟩ ?_
    rintro m _ h' ⟨k, v, rfl, hk, ho, rfl⟩
    simp only [push_cast, simprocAttr]
    refine ⟨fun hk2 => ?_, fun hk2 => ?_⟩
    · simp (disch := omega) only [push_cast, simprocAttr, wrap_i64, toNat_ofInt64, Nat.min_eq_left, Int.toNat_of_nonneg]
      refine (Power_spec (8 * k) (by omega)).to ?_
      have hp : 0 < 2 ^ (8 * k) := Nat.two_pow_pos _
      simp (disch := omega) only [push_cast, simprocAttr, wrap_i64, toNat_ofInt64, Nat.min_eq_left, Int.toNat_of_nonneg]
      refine ho.app (m := 1) rfl (by omega) (by omega) fun v' h2 ho2 => ?_
      simp (disch := omega) only [push_cast, simprocAttr, wrap_i64, toNat_ofInt64, Nat.min_eq_left, Int.toNat_of_nonneg]
      exact ⟨_, _, by omega, .refl _, k + 1, v', rfl, by omega, by rw [leB_succ, bys_app]; exact ho2, rfl⟩
    · obtain rfl : k = n := by omega
      exact ho
  · rintro _ h' ho
    exact ⟨_, _, ⟨rfl, rfl⟩, by simpa [byt, leB] using ho.freeze⟩
theorem leN_take (bs : List (BitVec 8)) (k : Nat) (hk : k < bs.length) : leN (bs.take (k + 1)) = leN (bs.take k) + 256 ^ k * (bs.getD k 0#8).toNat := by
  rw [List.take_add_one, List.getElem?_eq_getElem hk, leN_app]
  simp [leN, Nat.min_eq_left (Nat.le_of_lt hk), hk]
theorem pow256 (k : Nat) : 256 ^ k = 2 ^ (8 * k) := by rw [Nat.pow_mul]
theorem Number_spec (bs : List (BitVec 8)) (hn : bs.length = 1 ∨ bs.length = 2 ∨ bs.length = 4) : Spec Try.prog G 98 [byt bs] h (Is (.tup [.int .u32 (BitVec.ofNat 32 (leN bs)).toNat, .int .i64 0]) h) := by
  refine Spec.is C98ok rfl ?_
  simp only [push_cast, simprocAttr, byt]
  refine (width_spec bs.length).to ?_
  have hb : ((bs.length : Int) == 1 || (bs.length : Int) == 2 || (bs.length : Int) == 4) = true := by rcases hn with h | h | h <;> rw [h] <;> rfl
  simp only [push_cast, simprocAttr, hb]
  refine lpc.rel [0, 4, 11, 12] (fun m ρ h' => ∃ k, m = bs.length - k ∧ k ≤ bs.length ∧ h' = h ∧ ρ = [(0, byt bs), (4, .int .u32 (BitVec.ofNat 32 (leN (bs.take k))).toNat), (11, .int .i64 bs.length), (12, .int .i64 k)]) ⟨bs.length, 0, rfl, by omega, rfl, rfl⟩ ?_
  rintro m _ _ ⟨k, rfl, hk, rfl, rfl⟩
  simp only [push_cast, simprocAttr, byt]
  refine ⟨fun hk2 => ?_, fun hk2 => ?_⟩
  · have e8 : (8 * (k : Int)).toNat = 8 * k := by omega
    simp (disch := omega) only [push_cast, simprocAttr, wrap_i64, toNat_ofInt64, Nat.min_eq_left, Int.toNat_of_nonneg, e8, hk2]
    have e : BitVec.ofNat 32 (leN (bs.take k)) ||| BitVec.setWidth 32 (bs.getD k 0#8) <<< (8 * k) = BitVec.ofNat 32 (leN (bs.take (k + 1))) := by
      have h1 : BitVec.setWidth 32 (bs.getD k 0#8) = BitVec.ofNat 32 (bs.getD k 0#8).toNat := by rw [BitVec.ofNat_toNat]
      have h2 := leN_lt (bs.take k)
      rw [List.length_take, Nat.min_eq_left hk, pow256] at h2
      rw [h1, or_shl _ _ _ h2, leN_take bs k hk2, pow256]
    rw [e]
    exact ⟨_, _, by omega, .refl _, k + 1, rfl, by omega, rfl, rfl⟩
  · obtain rfl : k = bs.length := by omega
    simp
theorem rNumber_spec (bs : List (BitVec 8)) (hn : bs.length ≤ 4) : Spec Try.prog G 72 [byt bs] h (Is (.int .u32 (BitVec.ofNat 32 (leN bs)).toNat) h) := by
  refine Spec.is C72ok rfl ?_
  simp only [push_cast, simprocAttr, byt]
  refine lpc.rel [0, 3, 4] (fun m ρ h' => ∃ k, m = bs.length - k ∧ k ≤ bs.length ∧ h' = h ∧ ρ = [(0, byt bs), (3, .int .u64 (BitVec.ofNat 64 (leN (bs.take k))).toNat), (4, .int .i64 k)]) ⟨bs.length, 0, rfl, by omega, rfl, rfl⟩ ?_
  rintro m _ _ ⟨k, rfl, hk, rfl, rfl⟩
  simp only [push_cast, simprocAttr, byt]
  refine ⟨fun hk2 => ?_, fun hk2 => ?_⟩
  · simp (disch := omega) only [push_cast, simprocAttr, wrap_i64, toNat_ofInt64, Nat.min_eq_left, Int.toNat_of_nonneg, hk2]
    refine (Power_spec (8 * k) (by omega)).to ?_
    simp (disch := omega) only [push_cast, simprocAttr, wrap_i64, toNat_ofInt64, Nat.min_eq_left, Int.toNat_of_nonneg, hk2]
    have e : BitVec.ofNat 64 (leN (bs.take k)) + BitVec.setWidth 64 (bs.getD k 0#8) <<< (8 * k) = BitVec.ofNat 64 (leN (bs.take (k + 1))) := by
      have h1 : BitVec.setWidth 64 (bs.getD k 0#8) = BitVec.ofNat 64 (bs.getD k 0#8).toNat := by rw [BitVec.ofNat_toNat]
      have h2 : BitVec.ofNat 64 (bs.getD k 0#8).toNat <<< (8 * k) = BitVec.ofNat 64 (2 ^ (8 * k) * (bs.getD k 0#8).toNat) := by
        apply BitVec.eq_of_toNat_eq
        simp only [BitVec.toNat_shiftLeft, BitVec.toNat_ofNat, Nat.shiftLeft_eq, Nat.mod_mul_mod]
        rw [Nat.mul_comm]
      rw [h1, h2, leN_take bs k hk2, pow256, ← BitVec.ofNat_add]
    rw [e]
    exact ⟨_, _, by omega, .refl _, k + 1, rfl, by omega, rfl, rfl⟩
  · obtain rfl : k = bs.length := by omega
    have h2 := leN_lt bs
    have h3 : 256 ^ bs.length ≤ 256 ^ 4 := Nat.pow_le_pow_right (by omega) hn
    simp
theorem SameBytes_spec (a b : List (BitVec 8)) (ha : a.length ≤ 140737488355328) : Spec Try.prog G 15 [byt a, byt b] h (Is (.bool (decide (a = b))) h) := by
  refine Spec.is C15ok rfl ?_
  simp only [push_cast, simprocAttr, byt, len_bne]
  refine ⟨fun hl => ?_, fun hl => ?_⟩
  · have : a ≠ b := fun e => hl (by rw [e])
    simp [this]
  · refine lpc.rel [0, 1, 5] (fun m ρ h' => ∃ k, m = a.length - k ∧ k ≤ a.length ∧ h' = h ∧ a.take k = b.take k ∧ ρ = [(0, byt a), (1, byt b), (5, .int .i64 k)]) ⟨a.length, 0, rfl, by omega, rfl, rfl, rfl⟩ ?_
    rintro m _ _ ⟨k, rfl, hk, rfl, hp, rfl⟩
    simp only [push_cast, simprocAttr, byt]
    refine ⟨fun hk2 => ?_, fun hk2 => ?_⟩
    · have hk3 : k < b.length := by have := Classical.not_not.1 hl; omega
      simp only [push_cast, simprocAttr, hk2, hk3]
      refine ⟨fun he => ?_, fun he => ?_⟩
      · have : a ≠ b := fun e => by subst e; simp at he
        simp [this]
      · have e0 : a.getD k 0#8 = b.getD k 0#8 := by simpa using he
        rw [wrap_i64 (by omega) (by omega)]
        refine ⟨_, _, by omega, .refl _, k + 1, rfl, by omega, rfl, ?_, rfl⟩
        simp only [List.getD_eq_getElem?_getD, List.getElem?_eq_getElem hk2, List.getElem?_eq_getElem hk3, Option.getD_some] at e0
        rw [List.take_add_one, List.take_add_one, hp, List.getElem?_eq_getElem hk2, List.getElem?_eq_getElem hk3, e0]
    · have hk1 : k = a.length := by omega
      have : a = b := by
        rw [hk1, List.take_length, Classical.not_not.1 hl, List.take_length] at hp
        exact hp
      simp [this]
end Go.Ab
