/- Words read as instructions: immediate numbers, and the program's Decode. -/
import Derived.Test.YtglanajcilfpcaaDoorH2
set_option linter.unusedSimpArgs false
set_option linter.unusedVariables false
set_option maxRecDepth 10000
namespace Go.Ab
open Go.Proofs
variable {G : Glo} {h : Heap}
/-- The immediate number of a form, as the document says it. -/
def immN (w : BitVec 32) (f : Nat) : BitVec 32 :=
  if f = 1 then BitVec.ofNat 32 (fld w 12 20 * 4096)
  else if f = 2 then BitVec.ofNat 32 (extN (((fld w 31 1 * 256 + fld w 12 8) * 2 + fld w 20 1) * 2048 + fld w 21 10 * 2) 21)
  else if f = 3 then BitVec.ofNat 32 (extN (fld w 20 12) 12)
  else if f = 4 then BitVec.ofNat 32 (extN (((fld w 31 1 * 2 + fld w 7 1) * 64 + fld w 25 6) * 32 + fld w 8 4 * 2) 13)
  else if f = 5 then BitVec.ofNat 32 (extN (fld w 25 7 * 32 + fld w 7 5) 12)
  else if f = 7 then BitVec.ofNat 32 (fld w 20 5)
  else if f = 9 then BitVec.ofNat 32 (fld w 15 5)
  else 0#32
theorem or_low (k x y : Nat) (hx : x % 2 ^ k = 0) (hy : y < 2 ^ k) : x ||| y = x + y := by
  have h1 := Nat.div_add_mod x (2 ^ k)
  rw [hx, Nat.add_zero] at h1
  rw [← h1]
  exact (Nat.two_pow_add_eq_or_of_lt hy _).symm
def topN (w : BitVec 32) (k : Nat) : BitVec 32 := BitVec.ofNat 32 (if fld w 31 1 = 1 then 2 ^ 32 - 2 ^ k else 0)
theorem ofNat_toNat32 {n : Nat} (hn : n < 4294967296) : (BitVec.ofNat 32 n).toNat = n := by
  rw [BitVec.toNat_ofNat, Nat.mod_eq_of_lt (by omega)]
theorem ofNat_shl {n k : Nat} (hn : n * 2 ^ k < 4294967296) : (BitVec.ofNat 32 n <<< k).toNat = n * 2 ^ k := by
  have h1 : n < 4294967296 := by
    have := Nat.two_pow_pos k
    exact Nat.lt_of_le_of_lt (Nat.le_mul_of_pos_right n this) hn
  rw [BitVec.toNat_shiftLeft, ofNat_toNat32 h1, Nat.shiftLeft_eq, Nat.mod_eq_of_lt (by omega)]
theorem immJ (w : BitVec 32) : topN w 20 ||| BitVec.ofNat 32 (fld w 12 8) <<< 12 ||| BitVec.ofNat 32 (fld w 20 1) <<< 11 ||| BitVec.ofNat 32 (fld w 21 10) <<< 1 = immN w 2 := by
  have a1 := fld_lt w 12 8
  have a2 := fld_lt w 20 1
  have a3 := fld_lt w 21 10
  have a4 := fld_lt w 31 1
  have hN : immN w 2 = BitVec.ofNat 32 (extN (((fld w 31 1 * 256 + fld w 12 8) * 2 + fld w 20 1) * 2048 + fld w 21 10 * 2) 21) := rfl
  have hT : topN w 20 = BitVec.ofNat 32 (if fld w 31 1 = 1 then 2 ^ 32 - 2 ^ 20 else 0) := rfl
  rw [hN, hT]
  generalize fld w 12 8 = a at *
  generalize fld w 20 1 = b at *
  generalize fld w 21 10 = c at *
  generalize fld w 31 1 = t at *
  have ht : t = 0 ∨ t = 1 := by omega
  obtain ⟨T, hTT⟩ : ∃ T, (if t = 1 then 2 ^ 32 - 2 ^ 20 else 0) = T := ⟨_, rfl⟩
  have hT2 : T = t * 4293918720 := by rw [← hTT]; rcases ht with rfl | rfl <;> rfl
  rw [hTT]
  have hE : extN (((t * 256 + a) * 2 + b) * 2048 + c * 2) 21 = t * 4293918720 + a * 4096 + b * 2048 + c * 2 := by
    unfold extN
    simp only [Nat.reduceSub, Nat.reducePow]
    rw [Nat.mod_eq_of_lt (by omega)]
    split <;> omega
  rw [hE]
  apply BitVec.eq_of_toNat_eq
  simp only [BitVec.toNat_or]
  rw [ofNat_toNat32 (n := T) (by omega), ofNat_shl (by omega), ofNat_shl (by omega), ofNat_shl (by omega), ofNat_toNat32 (by omega), or_low 20 T (a * 2 ^ 12) (by omega) (by omega), or_low 12 (T + a * 2 ^ 12) (b * 2 ^ 11) (by omega) (by omega), or_low 11 (T + a * 2 ^ 12 + b * 2 ^ 11) (c * 2 ^ 1) (by omega) (by omega), hT2]
theorem immB (w : BitVec 32) : topN w 12 ||| BitVec.ofNat 32 (fld w 7 1) <<< 11 ||| BitVec.ofNat 32 (fld w 25 6) <<< 5 ||| BitVec.ofNat 32 (fld w 8 4) <<< 1 = immN w 4 := by
  have a1 := fld_lt w 7 1
  have a2 := fld_lt w 25 6
  have a3 := fld_lt w 8 4
  have a4 := fld_lt w 31 1
  have hN : immN w 4 = BitVec.ofNat 32 (extN (((fld w 31 1 * 2 + fld w 7 1) * 64 + fld w 25 6) * 32 + fld w 8 4 * 2) 13) := rfl
  have hT : topN w 12 = BitVec.ofNat 32 (if fld w 31 1 = 1 then 2 ^ 32 - 2 ^ 12 else 0) := rfl
  rw [hN, hT]
  generalize fld w 7 1 = a at *
  generalize fld w 25 6 = b at *
  generalize fld w 8 4 = c at *
  generalize fld w 31 1 = t at *
  have ht : t = 0 ∨ t = 1 := by omega
  obtain ⟨T, hTT⟩ : ∃ T, (if t = 1 then 2 ^ 32 - 2 ^ 12 else 0) = T := ⟨_, rfl⟩
  have hT2 : T = t * 4294963200 := by rw [← hTT]; rcases ht with rfl | rfl <;> rfl
  rw [hTT]
  have hE : extN (((t * 2 + a) * 64 + b) * 32 + c * 2) 13 = t * 4294963200 + a * 2048 + b * 32 + c * 2 := by
    unfold extN
    simp only [Nat.reduceSub, Nat.reducePow]
    rw [Nat.mod_eq_of_lt (by omega)]
    split <;> omega
  rw [hE]
  apply BitVec.eq_of_toNat_eq
  simp only [BitVec.toNat_or]
  rw [ofNat_toNat32 (n := T) (by omega), ofNat_shl (by omega), ofNat_shl (by omega), ofNat_shl (by omega), ofNat_toNat32 (by omega), or_low 12 T (a * 2 ^ 11) (by omega) (by omega), or_low 11 (T + a * 2 ^ 11) (b * 2 ^ 5) (by omega) (by omega), or_low 5 (T + a * 2 ^ 11 + b * 2 ^ 5) (c * 2 ^ 1) (by omega) (by omega), hT2]
theorem immS (w : BitVec 32) : topN w 11 ||| BitVec.ofNat 32 (fld w 25 6) <<< 5 ||| BitVec.ofNat 32 (fld w 7 5) = immN w 5 := by
  have a1 := fld_lt w 25 6
  have a2 := fld_lt w 7 5
  have a4 := fld_lt w 31 1
  have e25 : fld w 25 7 = fld w 31 1 * 64 + fld w 25 6 := by unfold fld; omega
  have hN : immN w 5 = BitVec.ofNat 32 (extN (fld w 25 7 * 32 + fld w 7 5) 12) := rfl
  have hT : topN w 11 = BitVec.ofNat 32 (if fld w 31 1 = 1 then 2 ^ 32 - 2 ^ 11 else 0) := rfl
  rw [hN, hT, e25]
  generalize fld w 25 6 = a at *
  generalize fld w 7 5 = b at *
  generalize fld w 31 1 = t at *
  have ht : t = 0 ∨ t = 1 := by omega
  obtain ⟨T, hTT⟩ : ∃ T, (if t = 1 then 2 ^ 32 - 2 ^ 11 else 0) = T := ⟨_, rfl⟩
  have hT2 : T = t * 4294965248 := by rw [← hTT]; rcases ht with rfl | rfl <;> rfl
  rw [hTT]
  have hE : extN ((t * 64 + a) * 32 + b) 12 = t * 4294965248 + a * 32 + b := by
    unfold extN
    simp only [Nat.reduceSub, Nat.reducePow]
    rw [Nat.mod_eq_of_lt (by omega)]
    split <;> omega
  rw [hE]
  apply BitVec.eq_of_toNat_eq
  simp only [BitVec.toNat_or]
  rw [ofNat_toNat32 (n := T) (by omega), ofNat_shl (by omega), ofNat_toNat32 (n := b) (by omega), ofNat_toNat32 (by omega), or_low 11 T (a * 2 ^ 5) (by omega) (by omega), or_low 5 (T + a * 2 ^ 5) b (by omega) (by omega), hT2]
theorem immU (w : BitVec 32) : w &&& ~~~ 4095#32 = immN w 1 := by
  have hw := w.isLt
  have hN : immN w 1 = BitVec.ofNat 32 (fld w 12 20 * 4096) := rfl
  have a1 := fld_lt w 12 20
  have h1 := and_hi w.toNat 1048575 0 12 (by decide)
  have h2 := Nat.and_two_pow_sub_one_eq_mod (w.toNat / 4096) 20
  simp only [Nat.reducePow, Nat.reduceMul, Nat.reduceAdd, Nat.reduceSub, Nat.and_zero, Nat.add_zero] at h1 h2
  rw [hN]
  apply BitVec.eq_of_toNat_eq
  rw [BitVec.toNat_and, show (~~~ 4095#32).toNat = 4294963200 from rfl, h1, h2, ofNat_toNat32 (by omega)]
  unfold fld
  simp only [Nat.reducePow]
  omega
theorem immI (w : BitVec 32) : BitVec.ofInt 32 (w.toInt.fdiv (2 ^ 20)) = immN w 3 := by
  have hw := w.isLt
  have hN : immN w 3 = BitVec.ofNat 32 (extN (fld w 20 12) 12) := rfl
  have h1 := BitVec.toInt_eq_toNat_cond w
  have a1 := fld_lt w 20 12
  have hf : fld w 20 12 = w.toNat / 1048576 := by unfold fld; omega
  have hE : extN (fld w 20 12) 12 = if 2048 ≤ fld w 20 12 then fld w 20 12 + 4294963200 else fld w 20 12 := by
    unfold extN
    simp only [Nat.reduceSub, Nat.reducePow]
    rw [Nat.mod_eq_of_lt (by omega)]
    split <;> omega
  rw [hN, hE, hf]
  apply BitVec.eq_of_toNat_eq
  rw [BitVec.toNat_ofInt, Int.fdiv_eq_ediv_of_nonneg _ (by omega), h1]
  split <;> split <;> (rw [ofNat_toNat32 (by omega)]; omega)
theorem shl1 (x : BitVec 32) : x <<< 1 = x * 2#32 := by
  apply BitVec.eq_of_toNat_eq
  simp [Nat.shiftLeft_eq]
theorem fld_v (w : BitVec 32) (lo k : Nat) (hk : k ≤ 31) : ((BitVec.ofNat 32 (fld w lo k)).toNat : Int) = (fld w lo k : Nat) := by
  have h1 := fld_lt w lo k
  have h2 : 2 ^ k ≤ 2 ^ 31 := Nat.pow_le_pow_right (by omega) hk
  rw [ofNat_toNat32 (by omega)]
theorem csr_v (w : BitVec 32) : ((w >>> 20).toNat : Int) = (fld w 20 12 : Nat) := by
  have := w.isLt
  rw [BitVec.toNat_ushiftRight, Nat.shiftRight_eq_div_pow]
  unfold fld
  omega
theorem top_spec' (w : BitVec 32) (k : Nat) (hk : k ≤ 31) : Spec Tryd.prog G 125 [.int .u32 w.toNat, .int .u64 k] h (Is (.int .u32 (topN w k).toNat) h) := top_spec w k hk
theorem number_spec (w : BitVec 32) (f : Nat) : Spec Tryd.prog G 122 [.int .u32 w.toNat, .int .i64 f] h (Is (.int .u32 (immN w f).toNat) h) := by
  have t20 := fun H : Heap => top_spec' (G := G) (h := H) w 20 (by omega)
  have t12 := fun H : Heap => top_spec' (G := G) (h := H) w 12 (by omega)
  have t11 := fun H : Heap => top_spec' (G := G) (h := H) w 11 (by omega)
  have F := fun (hi lo : Nat) (h1 : lo ≤ hi) (h2 : hi ≤ 31) => field_spec (G := G) (h := h) w hi lo h1 h2
  have m1 : min 12 32 = 12 := rfl
  have m2 : min 11 32 = 11 := rfl
  have m3 : min 1 32 = 1 := rfl
  have m4 : min 5 32 = 5 := rfl
  by_cases c1 : f = 1
  · subst c1
    rw [← immU]
    refine Spec.is C122ok rfl ?_
    simp only [push_cast, simprocAttr]
  by_cases c2 : f = 2
  · subst c2
    rw [← immJ]
    refine Spec.is C122ok rfl ?_
    simp only [push_cast, simprocAttr]
    refine (t20 _).to ?_
    simp only [push_cast, simprocAttr]
    refine (F 19 12 (by omega) (by omega)).to ?_
    simp only [push_cast, simprocAttr]
    refine (F 20 20 (by omega) (by omega)).to ?_
    simp only [push_cast, simprocAttr]
    refine (F 30 21 (by omega) (by omega)).to ?_
    simp only [push_cast, simprocAttr, m1, m2, m3]
    rw [shl1]
  by_cases c3 : f = 3
  · subst c3
    rw [← immI]
    refine Spec.is C122ok rfl ?_
    simp only [push_cast, simprocAttr]
    rw [show min 20 32 = 20 from rfl, show (2 : Int) ^ 20 = 1048576 by decide]
  by_cases c4 : f = 4
  · subst c4
    rw [← immB]
    refine Spec.is C122ok rfl ?_
    simp only [push_cast, simprocAttr]
    refine (t12 _).to ?_
    simp only [push_cast, simprocAttr]
    refine (F 7 7 (by omega) (by omega)).to ?_
    simp only [push_cast, simprocAttr]
    refine (F 30 25 (by omega) (by omega)).to ?_
    simp only [push_cast, simprocAttr]
    refine (F 11 8 (by omega) (by omega)).to ?_
    simp only [push_cast, simprocAttr, m1, m2, m3, m4]
    rw [shl1]
  by_cases c5 : f = 5
  · subst c5
    rw [← immS]
    refine Spec.is C122ok rfl ?_
    simp only [push_cast, simprocAttr]
    refine (t11 _).to ?_
    simp only [push_cast, simprocAttr]
    refine (F 30 25 (by omega) (by omega)).to ?_
    simp only [push_cast, simprocAttr]
    refine (F 11 7 (by omega) (by omega)).to ?_
    simp only [push_cast, simprocAttr, m1, m2, m3, m4]
  by_cases c7 : f = 7
  · subst c7
    have hN : immN w 7 = BitVec.ofNat 32 (fld w 20 5) := rfl
    rw [hN]
    refine Spec.is C122ok rfl ?_
    simp only [push_cast, simprocAttr]
    refine (F 24 20 (by omega) (by omega)).to ?_
    simp only [push_cast, simprocAttr]
  by_cases c9 : f = 9
  · subst c9
    have hN : immN w 9 = BitVec.ofNat 32 (fld w 15 5) := rfl
    rw [hN]
    refine Spec.is C122ok rfl ?_
    simp only [push_cast, simprocAttr]
    refine (F 19 15 (by omega) (by omega)).to ?_
    simp only [push_cast, simprocAttr]
  have hN : immN w f = 0#32 := by simp [immN, c1, c2, c3, c4, c5, c7, c9]
  have n1 : ((f : Int) = 1) = False := by simp only [eq_iff_iff, iff_false]; omega
  have n2 : ((f : Int) = 2) = False := by simp only [eq_iff_iff, iff_false]; omega
  have n3 : ((f : Int) = 3) = False := by simp only [eq_iff_iff, iff_false]; omega
  have n4 : ((f : Int) = 4) = False := by simp only [eq_iff_iff, iff_false]; omega
  have n5 : ((f : Int) = 5) = False := by simp only [eq_iff_iff, iff_false]; omega
  have n7 : ((f : Int) = 7) = False := by simp only [eq_iff_iff, iff_false]; omega
  have n9 : ((f : Int) = 9) = False := by simp only [eq_iff_iff, iff_false]; omega
  rw [hN]
  refine Spec.is C122ok rfl ?_
  simp only [push_cast, simprocAttr, n1, n2, n3, n4, n5, n7, n9]
/-- An instruction of a kind, its fields those of a word. -/
def laidN (w : BitVec 32) (op : Nat) : IIn :=
  let f := formN op
  ⟨op, if f = 0 ∨ f = 4 ∨ f = 5 then 0 else (fld w 7 5 : Nat), if f = 3 ∨ f = 4 ∨ f = 5 ∨ f = 6 ∨ f = 7 ∨ f = 8 then (fld w 15 5 : Nat) else 0, if f = 4 ∨ f = 5 ∨ f = 6 then (fld w 20 5 : Nat) else 0, immN w f, if f = 8 ∨ f = 9 then (fld w 20 12 : Nat) else 0⟩
def decI (w : BitVec 32) : IIn := if kindK w = 0 then IIn.zero else laidN w (kindK w)
theorem formN_le (op : Nat) : formN op ≤ 9 := by
  unfold formN
  by_cases h : op < formL.length
  · simp only [List.getD_eq_getElem?_getD, List.getElem?_eq_getElem h, Option.getD_some]
    have : ∀ x ∈ formL, x ≤ 9 := by decide
    exact this _ (List.getElem_mem h)
  · simp [Nat.not_lt.1 h]
theorem laid_spec (hG : GF G) (w : BitVec 32) (op : Nat) (ho : op < 58) : Spec Tryd.prog G 104 [.int .u32 w.toNat, .int .i64 op] h (Is (.agg (laidN w op).cells) h) := by
  have hf := fun H : Heap => Form_spec (G := G) (h := H) hG op ho
  have hn := fun H : Heap => number_spec (G := G) (h := H) w (formN op)
  have F := fun (H : Heap) (hi lo : Nat) (h1 : lo ≤ hi) (h2 : hi ≤ 31) => field_spec (G := G) (h := H) w hi lo h1 h2
  have hle := formN_le op
  have hL : (laidN w op).cells = [.int .i64 op, .int .i64 (if formN op = 0 ∨ formN op = 4 ∨ formN op = 5 then 0 else (fld w 7 5 : Nat)), .int .i64 (if formN op = 3 ∨ formN op = 4 ∨ formN op = 5 ∨ formN op = 6 ∨ formN op = 7 ∨ formN op = 8 then (fld w 15 5 : Nat) else 0), .int .i64 (if formN op = 4 ∨ formN op = 5 ∨ formN op = 6 then (fld w 20 5 : Nat) else 0), .int .u32 ((immN w (formN op)).toNat : Int), .int .i64 (if formN op = 8 ∨ formN op = 9 then (fld w 20 12 : Nat) else 0)] := rfl
  rw [hL]
  clear hL
  generalize immN w (formN op) = I at hn ⊢
  have hf' : formN op = 0 ∨ formN op = 1 ∨ formN op = 2 ∨ formN op = 3 ∨ formN op = 4 ∨ formN op = 5 ∨ formN op = 6 ∨ formN op = 7 ∨ formN op = 8 ∨ formN op = 9 := by omega
  generalize formN op = f at *
  rcases hf' with rfl | rfl | rfl | rfl | rfl | rfl | rfl | rfl | rfl | rfl <;>
  · refine Spec.is C104ok rfl ?_
    simp only [push_cast, simprocAttr]
    intro c4 hc4
    refine (hf _).to ?_
    simp only [push_cast, simprocAttr]
    refine (hn _).to ?_
    simp only [push_cast, simprocAttr]
    intro c7 hc7
    have v1 := fld_v w 15 5 (by omega)
    have v2 := fld_v w 7 5 (by omega)
    have v3 := fld_v w 20 5 (by omega)
    have v4 := csr_v w
    have m20 : min 20 32 = 20 := rfl
    have l1 := fld_lt w 15 5
    have l2 := fld_lt w 7 5
    have l3 := fld_lt w 20 5
    have l4 := fld_lt w 20 12
    have w1 : IntKind.i64.wrap (fld w 15 5 : Nat) = (fld w 15 5 : Nat) := wrap_i64 (by omega) (by omega)
    have w2 : IntKind.i64.wrap (fld w 7 5 : Nat) = (fld w 7 5 : Nat) := wrap_i64 (by omega) (by omega)
    have w3 : IntKind.i64.wrap (fld w 20 5 : Nat) = (fld w 20 5 : Nat) := wrap_i64 (by omega) (by omega)
    have w4 : IntKind.i64.wrap (fld w 20 12 : Nat) = (fld w 20 12 : Nat) := wrap_i64 (by omega) (by omega)
    have n7 : c4 ≠ c7 := fun e => by rw [← e, upd_same] at hc7; cases hc7
    have u7 : ∀ (H : Heap) X, upd H c7 X c4 = H c4 := fun H X => upd_ne n7
    have p6 : ∀ a b c d e f : AV, partOf [a, b, c, d, e, f] 0 (some 6) = some (.agg [a, b, c, d, e, f]) := fun _ _ _ _ _ _ => rfl
    have hs : ∀ X Y Z, Sub h (upd (upd (upd h c4 X) c7 Y) c4 Z) := fun X Y Z => (((Sub.refl h).set hc4).set (upd_none hc7).2).set hc4
    clear hc7
    repeat (first
      | (refine (F _ 19 15 (by omega) (by omega)).to ?_; (try simp only [push_cast, simprocAttr, v1, v2, v3, v4, m20, w1, w2, w3, w4, u7, p6]))
      | (refine (F _ 24 20 (by omega) (by omega)).to ?_; (try simp only [push_cast, simprocAttr, v1, v2, v3, v4, m20, w1, w2, w3, w4, u7, p6]))
      | (refine (F _ 11 7 (by omega) (by omega)).to ?_; (try simp only [push_cast, simprocAttr, v1, v2, v3, v4, m20, w1, w2, w3, w4, u7, p6])))
    try simp only [push_cast, simprocAttr, v1, v2, v3, v4, m20, w1, w2, w3, w4, u7, p6]
    exact ⟨by simp, hs _ _ _⟩
theorem Decode_spec (hG : GF G) (w : BitVec 32) (hk : kindK w < 58) : Spec Tryd.prog G 71 [.int .u32 w.toNat] h (Is (.agg (decI w).cells) h) := by
  have hK := fun H : Heap => kind_spec (G := G) (h := H) w
  have hL := fun H : Heap => laid_spec (G := G) (h := H) hG w (kindK w) hk
  have p6 : ∀ a b c d e f : AV, partOf [a, b, c, d, e, f] 0 (some 6) = some (.agg [a, b, c, d, e, f]) := fun _ _ _ _ _ _ => rfl
  by_cases h0 : kindK w = 0
  · have hD : decI w = IIn.zero := by rw [decI, if_pos h0]
    rw [hD]
    rw [h0] at hK
    refine Spec.is C71ok rfl ?_
    simp only [push_cast, simprocAttr]
    intro c2 hc2
    refine (hK _).to ?_
    simp only [push_cast, simprocAttr, p6]
    exact ⟨rfl, (Sub.refl h).set hc2⟩
  · have hD : decI w = laidN w (kindK w) := by rw [decI, if_neg h0]
    rw [hD]
    have n0 : ((kindK w : Int) = 0) = False := by simp only [eq_iff_iff, iff_false]; omega
    generalize laidN w (kindK w) = I at hL ⊢
    have pall : partOf I.cells 0 (some 6) = some (.agg I.cells) := rfl
    have ps : splice [AV.int .i64 0, .int .i64 0, .int .i64 0, .int .i64 0, .int .u32 0, .int .i64 0] 0 I.cells = I.cells := splice_all' rfl
    generalize kindK w = K at *
    refine Spec.is C71ok rfl ?_
    simp only [push_cast, simprocAttr]
    intro c2 hc2
    refine (hK _).to ?_
    simp only [push_cast, simprocAttr, n0]
    refine (hL _).to ?_
    simp only [push_cast, simprocAttr, p6, pall, ps]
    exact (Sub.refl h).set hc2
end Go.Ab
