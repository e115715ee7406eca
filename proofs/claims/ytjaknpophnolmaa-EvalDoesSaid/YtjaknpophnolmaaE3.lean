/- What instructions reckon: the program's and the document's. -/
import Derived.Test.YtjaknpophnolmaaE2
set_option linter.unusedSimpArgs false
set_option linter.unusedVariables false
set_option maxRecDepth 10000
namespace Go.Ab
open Go.Proofs
variable {G : Glo} {h : Heap}
theorem toNat_z {b : BitVec 32} (hb : ¬ b = 0#32) : ((b.toNat : Int) == 0) = false ∧ ((b.toNat : Int) = 0) = False := by
  have : ((b.toNat : Int) == 0) = false := by
    rw [beq_eq_false_iff_ne]
    intro e
    exact hb (by rw [← BitVec.toNat_inj]; simpa using e)
  exact ⟨this, by simpa using this⟩
theorem udiv_int (a b : BitVec 32) : BitVec.ofInt 32 ((a.toNat : Int) / (b.toNat : Int)) = a / b := by
  rw [← Int.natCast_ediv, BitVec.ofInt_natCast]
  apply BitVec.eq_of_toNat_eq
  have := a.isLt
  have h2 : a.toNat / b.toNat ≤ a.toNat := Nat.div_le_self _ _
  rw [BitVec.toNat_ofNat, BitVec.toNat_udiv, Nat.mod_eq_of_lt (by omega)]
theorem umod_int (a b : BitVec 32) : ((a.toNat : Int) % (b.toNat : Int)) = ((a % b).toNat : Int) := by
  rw [BitVec.toNat_umod, Int.natCast_emod]
def quoN (a b : BitVec 32) (s : Bool) : BitVec 32 := if b = 0#32 then 0xffffffff#32 else if s then BitVec.ofInt 32 (a.toInt.tdiv b.toInt) else a / b
def remN (a b : BitVec 32) (s : Bool) : BitVec 32 := if b = 0#32 then a else if s then BitVec.ofInt 32 (a.toInt.tmod b.toInt) else a % b
theorem quotient_spec (a b : BitVec 32) (s : Bool) : Spec Try.prog G 53 [.int .u32 a.toNat, .int .u32 b.toNat, .bool s] h (Is (.tup [.int .u32 (quoN a b s).toNat, .int .u32 (remN a b s).toNat]) h) := by
  by_cases hb : b = 0#32
  · have h1 : quoN a b s = 0xffffffff#32 := by rw [quoN, if_pos hb]
    have h2 : remN a b s = a := by rw [remN, if_pos hb]
    have hb0 : ((b.toNat : Int) == 0) = true := by rw [hb]; rfl
    obtain ⟨v, hv⟩ : ∃ v, (0xffffffff#32) = v := ⟨_, rfl⟩
    rw [h1, h2, hv]
    refine Spec.is C53ok rfl ?_
    simp only [push_cast, simprocAttr, hb0]
    rw [← hv]; rfl
  · have h1 : quoN a b s = if s then BitVec.ofInt 32 (a.toInt.tdiv b.toInt) else a / b := by rw [quoN, if_neg hb]
    have h2 : remN a b s = if s then BitVec.ofInt 32 (a.toInt.tmod b.toInt) else a % b := by rw [remN, if_neg hb]
    obtain ⟨hb0, hb1⟩ := toNat_z hb
    rw [h1, h2]
    cases s with
    | true =>
      refine Spec.is C53ok rfl ?_
      simp only [push_cast, simprocAttr, hb0, hb1]
      refine (divided_spec a b hb).to ?_
      simp only [push_cast, simprocAttr]
    | false =>
      refine Spec.is C53ok rfl ?_
      simp only [push_cast, simprocAttr, hb0, hb1]
      rw [udiv_int, umod_int]
theorem Do_md (op : Int) (a b : BitVec 32) : Spec Try.prog G 22 [.int .i64 op, .int .u32 a.toNat, .int .u32 b.toNat] h (Is (.tup [.int .u32 (mdN op a b).toNat, .int .i64 (mdE op)]) h) := by
  by_cases hr : 50 ≤ op ∧ op ≤ 57
  · have hE : mdE op = 0 := by rw [mdE, if_pos hr]
    rw [hE]
    have hc : op = 50 ∨ op = 51 ∨ op = 52 ∨ op = 53 ∨ op = 54 ∨ op = 55 ∨ op = 56 ∨ op = 57 := by omega
    rcases hc with rfl | rfl | rfl | rfl | rfl | rfl | rfl | rfl
    · refine Spec.is C22ok rfl ?_
      simp only [push_cast, simprocAttr]
      rfl
    · refine Spec.is C22ok rfl ?_
      simp only [push_cast, simprocAttr]
      refine (upper_spec a b true true).to ?_
      simp only [push_cast, simprocAttr]
      rfl
    · refine Spec.is C22ok rfl ?_
      simp only [push_cast, simprocAttr]
      refine (upper_spec a b true false).to ?_
      simp only [push_cast, simprocAttr]
      rfl
    · refine Spec.is C22ok rfl ?_
      simp only [push_cast, simprocAttr]
      refine (upper_spec a b false false).to ?_
      simp only [push_cast, simprocAttr]
      show _ = AV.tup [.int .u32 (BitVec.ofNat 32 (a.toNat * b.toNat / 4294967296)).toNat, _]
      rw [← BitVec.ofInt_natCast]; rfl
    · refine Spec.is C22ok rfl ?_
      simp only [push_cast, simprocAttr]
      refine (quotient_spec a b true).to ?_
      simp only [push_cast, simprocAttr]
      rfl
    · refine Spec.is C22ok rfl ?_
      simp only [push_cast, simprocAttr]
      refine (quotient_spec a b false).to ?_
      simp only [push_cast, simprocAttr]
      rfl
    · refine Spec.is C22ok rfl ?_
      simp only [push_cast, simprocAttr]
      refine (quotient_spec a b true).to ?_
      simp only [push_cast, simprocAttr]
      rfl
    · refine Spec.is C22ok rfl ?_
      simp only [push_cast, simprocAttr]
      refine (quotient_spec a b false).to ?_
      simp only [push_cast, simprocAttr]
      rfl
  · have hE : mdE op = 9 := by rw [mdE, if_neg hr]
    have e0 : (op = 50) = False := by simp; omega
    have e1 : (op = 51) = False := by simp; omega
    have e2 : (op = 52) = False := by simp; omega
    have e3 : (op = 53) = False := by simp; omega
    have e4 : (op = 54) = False := by simp; omega
    have e5 : (op = 55) = False := by simp; omega
    have e6 : (op = 56) = False := by simp; omega
    have e7 : (op = 57) = False := by simp; omega
    have hN : mdN op a b = 0 := by simp only [mdN, e0, e1, e2, e3, e4, e5, e6, e7, if_false]
    rw [hE, hN]
    refine Spec.is C22ok rfl ?_
    simp only [push_cast, simprocAttr, e0, e1, e2, e3, e4, e5, e6, e7]
theorem prod_le {x y : Int} {M N : Nat} (hx : x.natAbs ≤ M) (hy : y.natAbs ≤ N) : (x * y).natAbs ≤ M * N := by
  rw [Int.natAbs_mul]; exact Nat.mul_le_mul hx hy
theorem wide64 (a b : BitVec 32) : (BitVec.setWidth 64 a * BitVec.setWidth 64 b).toNat = a.toNat * b.toNat := by
  have la := a.isLt
  have lb := b.isLt
  rw [BitVec.toNat_mul, sw64, sw64, Nat.mod_eq_of_lt]
  have := Nat.mul_le_mul (show a.toNat ≤ 4294967295 by omega) (show b.toNat ≤ 4294967295 by omega)
  omega
theorem rDo_md (op : Int) (a b : BitVec 32) (hr : 50 ≤ op ∧ op ≤ 57) : Spec Try.prog G 26 [.int .i64 op, .int .u32 a.toNat, .int .u32 b.toNat] h (Is (.int .u32 (mdN op a b).toNat) h) := by
  have la := a.isLt
  have lb := b.isLt
  have ba := abs_le a
  have bb := abs_le b
  have p1 := prod_le ba bb
  have p2 := prod_le ba (show ((b.toNat : Int)).natAbs ≤ 4294967295 by omega)
  have wm := wide64 a b
  have hc : op = 50 ∨ op = 51 ∨ op = 52 ∨ op = 53 ∨ op = 54 ∨ op = 55 ∨ op = 56 ∨ op = 57 := by omega
  rcases hc with rfl | rfl | rfl | rfl | rfl | rfl | rfl | rfl
  all_goals
    refine Spec.is C26ok rfl ?_
    simp only [push_cast, simprocAttr]
    refine (Signed_spec a).to ?_
    simp only [push_cast, simprocAttr]
    refine (Signed_spec b).to ?_
    simp only [push_cast, simprocAttr]
  · rw [wm, show (4294967296 : Int) = ((4294967296 : Nat) : Int) from rfl, tmod_nat, BitVec.ofInt_natCast]
    congr 2
    show _ = (a * b).toNat
    rw [BitVec.toNat_mul, BitVec.toNat_ofNat]; simp
  · rw [wrap_i64 (x := a.toInt * b.toInt) (by omega) (by omega)]
    refine (high_spec (a.toInt * b.toInt) (by omega) (by omega)).to ?_
    simp only [push_cast, simprocAttr]
    rfl
  · rw [wrap_i64 (x := a.toInt * (b.toNat : Int)) (by omega) (by omega)]
    refine (high_spec (a.toInt * (b.toNat : Int)) (by omega) (by omega)).to ?_
    simp only [push_cast, simprocAttr]
    rfl
  · rw [wm, show (4294967296 : Int) = ((4294967296 : Nat) : Int) from rfl, tdiv_nat, BitVec.ofInt_natCast]
    congr 2
    show _ = (BitVec.ofNat 32 (a.toNat * b.toNat / 4294967296)).toNat
    rw [BitVec.toNat_setWidth, BitVec.toNat_ofNat, BitVec.toNat_ofNat]
    omega
  · by_cases hb : b = 0#32
    · have hb0 : (b.toNat : Int) = 0 := by rw [hb]; rfl
      refine ⟨fun _ => ?_, fun q => absurd hb0 q⟩
      show _ = AV.int .u32 (if b = 0#32 then 0xffffffff#32 else _ : BitVec 32).toNat
      rw [if_pos hb]; rfl
    · refine ⟨fun q => absurd q (by rw [(toNat_z hb).2]; exact id), fun _ => ⟨div_zero_iff b hb, ?_⟩⟩
      have h1 := Int.natAbs_tdiv_le_natAbs a.toInt b.toInt
      rw [wrap_i64 (by omega) (by omega)]
      refine (Word_spec _).to ?_
      simp only [push_cast, simprocAttr]
      show _ = AV.int .u32 (if b = 0#32 then _ else _ : BitVec 32).toNat
      rw [if_neg hb]
  · by_cases hb : b = 0#32
    · have hb0 : (b.toNat : Int) = 0 := by rw [hb]; rfl
      refine ⟨fun _ => ?_, fun q => absurd hb0 q⟩
      show _ = AV.int .u32 (if b = 0#32 then 0xffffffff#32 else _ : BitVec 32).toNat
      rw [if_pos hb]; rfl
    · refine ⟨fun q => absurd q (by rw [(toNat_z hb).2]; exact id), fun _ => ⟨by rw [(toNat_z hb).2]; exact id, ?_⟩⟩
      show _ = AV.int .u32 (if b = 0#32 then _ else _ : BitVec 32).toNat
      rw [if_neg hb, udiv_int]
  · by_cases hb : b = 0#32
    · have hb0 : (b.toNat : Int) = 0 := by rw [hb]; rfl
      refine ⟨fun _ => ?_, fun q => absurd hb0 q⟩
      show _ = AV.int .u32 (if b = 0#32 then a else _ : BitVec 32).toNat
      rw [if_pos hb]
    · refine ⟨fun q => absurd q (by rw [(toNat_z hb).2]; exact id), fun _ => ⟨div_zero_iff b hb, (Word_spec _).to ?_⟩⟩
      simp only [push_cast, simprocAttr]
      show _ = AV.int .u32 (if b = 0#32 then _ else _ : BitVec 32).toNat
      rw [if_neg hb]
  · by_cases hb : b = 0#32
    · have hb0 : (b.toNat : Int) = 0 := by rw [hb]; rfl
      refine ⟨fun _ => ?_, fun q => absurd hb0 q⟩
      show _ = AV.int .u32 (if b = 0#32 then a else _ : BitVec 32).toNat
      rw [if_pos hb]
    · refine ⟨fun q => absurd q (by rw [(toNat_z hb).2]; exact id), fun _ => ⟨by rw [(toNat_z hb).2]; exact id, ?_⟩⟩
      show _ = AV.int .u32 (if b = 0#32 then _ else _ : BitVec 32).toNat
      rw [if_neg hb, umod_int]
/-- Bits of two words, by a table. -/
theorem fld1 (a : BitVec 32) (k : Nat) : fld a k 1 = (a.toNat.testBit k).toNat := by
  unfold fld
  rw [Nat.testBit_eq_decide_div_mod_eq]
  have : a.toNat / 2 ^ k % 2 < 2 := Nat.mod_lt _ (by omega)
  by_cases h1 : a.toNat / 2 ^ k % 2 = 1
  · simp [h1]
  · have : a.toNat / 2 ^ k % 2 = 0 := by omega
    simp [this]
theorem bits_spec (a b x : BitVec 32) (f0 f1 f2 : Nat) (hf : ∀ i, i < 32 → [f0, f1, f2].getD (fld a i 1 + fld b i 1) 0 = (x.toNat.testBit i).toNat) (hfl : f0 ≤ 1 ∧ f1 ≤ 1 ∧ f2 ≤ 1) :
    Spec Try.prog G 59 [.int .u32 a.toNat, .int .u32 b.toNat, .ro [.int .u64 f0, .int .u64 f1, .int .u64 f2] 3] h (Is (.int .u32 x.toNat) h) := by
  refine Spec.is C59ok rfl ?_
  simp only [push_cast, simprocAttr]
  have hx := x.isLt
  refine lpc.rel [0, 1, 2, 7, 8] (fun m ρ h' => ∃ k s, m = 32 - k ∧ k ≤ 32 ∧ h = h' ∧ s = x.toNat % 2 ^ k ∧ ρ = [(0, .int .u32 a.toNat), (1, .int .u32 b.toNat), (2, .ro [.int .u64 f0, .int .u64 f1, .int .u64 f2] 3), (7, .int .u64 (s : Int)), (8, .int .i64 (k : Int))]) ⟨32, 0, 0, rfl, by omega, rfl, by simp [Nat.mod_one], rfl⟩ ?_
  rintro m _ _ ⟨k, s, rfl, hk, rfl, hsx, rfl⟩
  simp only [push_cast, simprocAttr]
  refine ⟨fun hk2 => (Bits_spec a k 1 (by omega) (by omega)).to ?_, fun hk2 => ?_⟩
  · simp only [push_cast, simprocAttr]
    refine (Bits_spec b k 1 (by omega) (by omega)).to ?_
    simp only [push_cast, simprocAttr]
    have hfk := hf k (by omega)
    have l1 := fld_lt a k 1
    have l2 := fld_lt b k 1
    obtain ⟨u, hu⟩ : ∃ u, fld a k 1 + fld b k 1 = u := ⟨_, rfl⟩
    have eu : (BitVec.ofNat 32 (fld a k 1) + BitVec.ofNat 32 (fld b k 1)).toNat = u := by
      rw [BitVec.toNat_add, BitVec.toNat_ofNat, BitVec.toNat_ofNat]; omega
    rw [hu] at hfk
    rw [eu]
    have hu3 : u < 3 := by omega
    have hs2 : x.toNat % 2 ^ (k + 1) = s + 2 ^ k * (x.toNat.testBit k).toNat := by rw [Nat.pow_succ, Nat.mod_mul, ← hsx, ← fld1]; simp [fld]
    have hp := Nat.pow_le_pow_right (show 0 < 2 by omega) (show k ≤ 31 by omega)
    have hsl : s < 2 ^ k := hsx ▸ Nat.mod_lt _ (Nat.two_pow_pos k)
    obtain ⟨P, hP⟩ : ∃ P, 2 ^ k = P := ⟨_, rfl⟩
    rw [hP] at hs2 hp hsl
    obtain ⟨f, hff, hf1⟩ : ∃ f : Nat, [AV.int .u64 (f0 : Int), AV.int .u64 (f1 : Int), AV.int .u64 (f2 : Int)][u]? = some (.int .u64 (f : Int)) ∧ f = (x.toNat.testBit k).toNat := by
      match u, hu3, hfk with
      | 0, _, hfk => exact ⟨f0, rfl, hfk⟩
      | 1, _, hfk => exact ⟨f1, rfl, hfk⟩
      | 2, _, hfk => exact ⟨f2, rfl, hfk⟩
    refine ⟨by omega, ?_⟩
    simp only [push_cast, simprocAttr, hff]
    refine (PowV (by omega) hP).to ?_
    have hfb : f ≤ 1 := by rw [hf1]; cases x.toNat.testBit k <;> simp
    rw [← hf1] at hs2
    have h01 : f = 0 ∨ f = 1 := by omega
    clear hf1 hfb
    rcases h01 with rfl | rfl
    · simp (disch := omega) only [push_cast, simprocAttr, wrap_i64, toNat_ofInt64, Nat.min_eq_left, Int.toNat_of_nonneg, hff]
      refine ⟨by rw [if_pos (by omega)], ?_⟩
      rw [Int.zero_mul, Int.add_zero]
      exact ⟨_, _, by omega, .refl _, k + 1, s, rfl, by omega, rfl, by omega, rfl⟩
    · simp (disch := omega) only [push_cast, simprocAttr, wrap_i64, toNat_ofInt64, Nat.min_eq_left, Int.toNat_of_nonneg, hff]
      refine ⟨by rw [if_pos (by omega)], ?_⟩
      rw [show (s : Int) + 1 * (P : Int) = ((s + P : Nat) : Int) by omega]
      exact ⟨_, _, by omega, .refl _, k + 1, s + P, rfl, by omega, rfl, by omega, rfl⟩
  · obtain rfl : k = 32 := by omega
    rw [BitVec.ofInt_natCast, hsx, Nat.mod_eq_of_lt hx]
    simp
theorem rPlain_spec (op : Int) (hr : 19 ≤ op ∧ op ≤ 37) : Spec Try.prog G 57 [.int .i64 op] h (Is (.int .i64 (plainN op)) h) := by
  refine Spec.is C57ok rfl ?_
  simp only [push_cast, simprocAttr]
  refine (rHas7_spec op).to ?_
  have e1 : decide (19 ≤ op) = true := decide_eq_true hr.1
  have e2 : decide (op ≤ 37) = true := decide_eq_true hr.2
  simp only [push_cast, simprocAttr, e1, e2]
  have hc : op = 19 ∨ op = 20 ∨ op = 21 ∨ op = 22 ∨ op = 23 ∨ op = 24 ∨ op = 25 ∨ op = 26 ∨ op = 27 ∨ 27 < op := by omega
  rcases hc with rfl | rfl | rfl | rfl | rfl | rfl | rfl | rfl | rfl | hc
  any_goals first
    | (simp (disch := omega) only [push_cast, simprocAttr, wrap_i64, toNat_ofInt64, Nat.min_eq_left, Int.toNat_of_nonneg]; done)
    | (simp (disch := omega) only [push_cast, simprocAttr, wrap_i64, toNat_ofInt64, Nat.min_eq_left, Int.toNat_of_nonneg]; rfl)
  have h27 : (op ≤ 27) = False := by simp; omega
  simp only [push_cast, simprocAttr, h27]
  unfold plainN
  rw [if_neg (by omega), if_neg (by omega), if_neg (by omega), if_neg (by omega), if_neg (by omega), if_neg (by omega), if_neg (by omega), if_neg (by omega), if_neg (by omega), if_pos hr]
theorem rDo_alu (op : Int) (a b : BitVec 32) (hr : 19 ≤ op ∧ op ≤ 37) : Spec Try.prog G 27 [.int .i64 op, .int .u32 a.toNat, .int .u32 b.toNat] h (Is (.int .u32 (aluN op a b).toNat) h) := by
  have ba := abs_le a
  have bb := abs_le b
  have la := a.isLt
  have lb := b.isLt
  have hp : 28 ≤ plainN op ∧ plainN op ≤ 37 := by rcases plain_range op with h1 | h1 <;> omega
  have hP := rPlain_spec (G := G) (h := h) op hr
  rw [aluN]
  generalize plainN op = p at hp hP ⊢
  have hc : p = 28 ∨ p = 29 ∨ p = 30 ∨ p = 31 ∨ p = 32 ∨ p = 33 ∨ p = 34 ∨ p = 35 ∨ p = 36 ∨ p = 37 := by omega
  refine Spec.is C27ok rfl ?_
  simp (disch := omega) only [push_cast, simprocAttr, wrap_i64, toNat_ofInt64, Nat.min_eq_left, Int.toNat_of_nonneg]
  refine (Signed_spec a).to ?_
  simp only [push_cast, simprocAttr]
  refine (Signed_spec b).to ?_
  simp only [push_cast, simprocAttr]
  refine hP.to ?_
  clear hP
  obtain ⟨n, hn⟩ : ∃ n, b.toNat % 32 = n := ⟨_, rfl⟩
  have hn31 : n ≤ 31 := by omega
  have es : IntKind.i64.wrap ((b.toNat : Int).tmod 32) = (n : Int) := by
    rw [show (32 : Int) = ((32 : Nat) : Int) from rfl, tmod_nat, wrap_i64 (by omega) (by omega), hn]
  obtain ⟨P, hP⟩ : ∃ P, 2 ^ n = P := ⟨_, rfl⟩
  have hP0 : 0 < P := hP ▸ Nat.two_pow_pos n
  have hP2 : P ≤ 2 ^ 31 := hP ▸ Nat.pow_le_pow_right (by omega) hn31
  have hPz : ((P : Int) = 0) = False := by simp; omega
  rcases hc with rfl | rfl | rfl | rfl | rfl | rfl | rfl | rfl | rfl | rfl
  all_goals simp only [push_cast, simprocAttr]
  · rw [wrap_i64 (by omega) (by omega)]
    refine (Word_spec _).to ?_
    simp only [push_cast, simprocAttr]
    rw [BitVec.ofInt_add, BitVec.ofInt_toInt, BitVec.ofInt_toInt]
    simp [aluP]
  · rw [wrap_i64 (by omega) (by omega)]
    refine (Word_spec _).to ?_
    simp only [push_cast, simprocAttr]
    rw [ofInt_sub', BitVec.ofInt_toInt, BitVec.ofInt_toInt]
    simp [aluP]
  · rw [es]
    refine (PowV (by omega) hP).to ?_
    have e1 : aluP 30 a b = a <<< n := by simp [aluP, hn]
    rw [e1]
    have e2 : (BitVec.setWidth 64 a * BitVec.ofInt 64 (P : Int)).toNat = a.toNat * P := by
      rw [BitVec.ofInt_natCast]
      have := Nat.mul_le_mul (show a.toNat ≤ 4294967295 by omega) hP2
      rw [BitVec.toNat_mul, sw64, BitVec.toNat_ofNat, Nat.mod_eq_of_lt (show P < 2 ^ 64 by omega), Nat.mod_eq_of_lt (by omega)]
    simp only [push_cast, simprocAttr]
    rw [e2, show (4294967296 : Int) = ((4294967296 : Nat) : Int) from rfl, tmod_nat, BitVec.ofInt_natCast]
    congr 2
    rw [BitVec.toNat_shiftLeft, Nat.shiftLeft_eq, hP, BitVec.toNat_ofNat]
    simp
  · refine (rone_spec _).to ?_
    simp only [push_cast, simprocAttr]
    simp [aluP]
  · refine (rone_spec _).to ?_
    simp only [push_cast, simprocAttr]
    simp [aluP]
  · refine (bits_spec a b (a ^^^ b) 0 1 0 (fun i _ => ?_) (by omega)).to ?_
    · rw [fld1, fld1, BitVec.toNat_xor, Nat.testBit_xor]
      cases a.toNat.testBit i <;> cases b.toNat.testBit i <;> rfl
    · simp only [push_cast, simprocAttr]
      simp [aluP]
  · rw [es]
    refine (PowV (by omega) hP).to ?_
    have e1 : aluP 34 a b = a >>> n := by simp [aluP, hn]
    rw [e1]
    simp only [push_cast, simprocAttr, hPz]
    congr 2
    have := Nat.div_le_self a.toNat P
    rw [sw64, ← Int.natCast_ediv, BitVec.ofInt_natCast, BitVec.toNat_setWidth, BitVec.toNat_ofNat, BitVec.toNat_ushiftRight, Nat.shiftRight_eq_div_pow, hP]
    generalize a.toNat / P = q at *
    omega
  · rw [es]
    have e1 : aluP 35 a b = a.sshiftRight n := by simp [aluP, hn]
    rw [e1]
    refine (rright_spec a.toInt n (by have := ba; clear es; omega) (by have := BitVec.toInt_lt (x := a); clear es; omega) hn31).to ?_
    simp only [push_cast, simprocAttr]
    refine (Word_spec _).to ?_
    simp only [push_cast, simprocAttr]
    rw [← sar_eq, Int.fdiv_eq_ediv_of_nonneg _ (by rw [pow_int]; exact Int.natCast_nonneg _)]
  · refine (bits_spec a b (a ||| b) 0 1 1 (fun i _ => ?_) (by omega)).to ?_
    · rw [fld1, fld1, BitVec.toNat_or, Nat.testBit_or]
      cases a.toNat.testBit i <;> cases b.toNat.testBit i <;> rfl
    · simp only [push_cast, simprocAttr]
      simp [aluP]
  · refine (bits_spec a b (a &&& b) 0 0 1 (fun i _ => ?_) (by omega)).to ?_
    · rw [fld1, fld1, BitVec.toNat_and, Nat.testBit_and]
      cases a.toNat.testBit i <;> cases b.toNat.testBit i <;> rfl
    · simp only [push_cast, simprocAttr]
      simp [aluP]
/-- What an operation that reckons gives, and whether it does. -/
def reckN (op : Int) (a b : BitVec 32) : BitVec 32 := if 50 ≤ op ∧ op ≤ 57 then mdN op a b else aluN op a b
theorem Reckon_spec (op : Int) (a b : BitVec 32) (hr : reckonsN op = true) : Spec Try.prog G 9 [.int .i64 op, .int .u32 a.toNat, .int .u32 b.toNat] h (Is (.int .u32 (reckN op a b).toNat) h) := by
  refine Spec.is C9ok rfl ?_
  simp only [push_cast, simprocAttr]
  refine (rHas8_spec op).to ?_
  simp only [reckonsN, Bool.or_eq_true, Bool.and_eq_true, decide_eq_true_eq] at hr
  unfold reckN
  by_cases hm : 50 ≤ op ∧ op ≤ 57
  · rw [if_pos hm, decide_eq_true hm.1, decide_eq_true hm.2]
    simp only [push_cast, simprocAttr]
    refine (rDo_md op a b hm).to ?_
    simp only [push_cast, simprocAttr]
  · have : (decide (50 ≤ op) && decide (op ≤ 57)) = false := by simp; omega
    rw [if_neg hm]
    simp only [push_cast, simprocAttr, this]
    refine (rDo_alu op a b (by omega)).to ?_
    simp only [push_cast, simprocAttr]
/-- The value of an operation that asks for nothing but values. -/
def pureN (o : IOp) (a b : BitVec 32) : BitVec 32 × Bool :=
  if o.code = 2 then (o.imm, true) else if o.code = 3 then (if reckonsN o.imm.toNat then (reckN o.imm.toNat a b, true) else (0, false)) else (0, false)
theorem Pure_spec (o : IOp) (a b : BitVec 32) : Spec Try.prog G 6 [.agg o.cells, .int .u32 a.toNat, .int .u32 b.toNat] h (Is (.tup [.int .u32 (pureN o a b).1.toNat, .bool (pureN o a b).2]) h) := by
  obtain ⟨n, hn⟩ : ∃ n : Int, (o.imm.toNat : Int) = n := ⟨_, rfl⟩
  have hN : pureN o a b = if o.code = 2 then (o.imm, true) else if o.code = 3 then (if reckonsN n then (reckN n a b, true) else (0, false)) else (0, false) := by rw [← hn]; rfl
  generalize pureN o a b = N at hN ⊢
  have hw : IntKind.i64.wrap n = n := by rw [← hn]; exact i64_toNat _
  refine Spec.is C6ok rfl ?_
  simp only [push_cast, simprocAttr]
  by_cases h2 : o.code = 2
  · rw [if_pos h2] at hN
    subst hN
    simp only [push_cast, simprocAttr, h2]
  · rw [if_neg h2] at hN
    have h2' : (o.code = 2) = False := by simp [h2]
    by_cases h3 : o.code = 3
    · rw [if_pos h3] at hN
      simp only [push_cast, simprocAttr, h2', h3, hn]
      refine (Reckons_spec n).to ?_
      cases hr : reckonsN n with
      | false =>
        rw [hr] at hN
        subst hN
        simp only [push_cast, simprocAttr]
      | true =>
        rw [hr] at hN
        subst hN
        simp only [push_cast, simprocAttr, hn, hw]
        refine (Do_alu n a b).to ?_
        have hr' := hr
        simp only [reckonsN, Bool.or_eq_true, Bool.and_eq_true, decide_eq_true_eq] at hr'
        by_cases hm : 50 ≤ n ∧ n ≤ 57
        · have e1 : aluE n = 9 := by rw [aluE, if_neg (by omega)]
          have e2 : reckN n a b = mdN n a b := by rw [reckN, if_pos hm]
          have e3 : mdE n = 0 := by rw [mdE, if_pos hm]
          rw [e1, e2]
          simp only [push_cast, simprocAttr, hn, hw]
          refine (Do_md n a b).to ?_
          simp only [push_cast, simprocAttr, e3]
        · have e1 : aluE n = 0 := by rw [aluE, if_pos (by omega)]
          have e2 : reckN n a b = aluN n a b := by rw [reckN, if_neg hm]
          rw [e1, e2]
          simp only [push_cast, simprocAttr, hn]
    · rw [if_neg h3] at hN
      subst hN
      have h3' : (o.code = 3) = False := by simp [h3]
      have h3'' : (o.code != 3) = true := by simp [h3]
      simp only [push_cast, simprocAttr, h2', h3', h3'']
end Go.Ab
