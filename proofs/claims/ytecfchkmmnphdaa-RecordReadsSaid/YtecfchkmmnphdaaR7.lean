/- Contracts of package record: the reader. -/
import Derived.Test.YtecfchkmmnphdaaR6
import Derived.Test.YtecfchkmmnphdaaRn
set_option linter.unusedSimpArgs false
set_option linter.unusedVariables false
namespace Go.Ab
open Go.Proofs
variable {G : Glo} {h : Heap}
theorem take_spec {b : Nat} {bs : List (BitVec 8)} {bad : Bool} {C : List AV} (hb : h b = some ⟨byt bs :: .bool bad :: C, 0⟩) :
    Spec Try.prog G 69 [.ptr b 0] h (Is (.int .u8 (bs.headD 0#8).toNat) (upd h b ⟨byt bs.tail :: .bool (bad || bs.isEmpty) :: C, 0⟩)) := by
  refine Spec.is C69ok rfl ?_
  cases bs with
  | nil =>
    simp only [push_cast, simprocAttr, hb, byt]
    exact ⟨rfl, by simp only [List.tail_nil, List.isEmpty_nil, Bool.or_true]; exact .refl _⟩
  | cons c r =>
    have e : List.take r.length (List.drop 1 (bys (c :: r))) = bys r := by simp [bys, List.take_of_length_le]
    simp only [push_cast, simprocAttr, hb, byt, e]
    refine ⟨fun h => absurd h (by omega), fun _ => ⟨by omega, by omega, by omega, by simp, ?_⟩⟩
    simp only [List.tail_cons, List.isEmpty_cons, Bool.or_false]
    exact .refl _
theorem and127 (c : BitVec 8) : (BitVec.setWidth 64 (c &&& 127#8)).toNat = c.toNat % 128 := by
  have key : ∀ y : BitVec 8, (y &&& 127#8).toNat = y.toNat % 128 := by decide
  rw [sw64_8, key]
theorem shr_sub (most : BitVec 64) (n s : Nat) (hn : n ≤ most.toNat) (hs : s ≤ 64) : ((most - BitVec.ofNat 64 n) >>> min s 64).toNat = (most.toNat - n) / 2 ^ s := by
  rw [Nat.min_eq_left hs, BitVec.toNat_ushiftRight, Nat.shiftRight_eq_div_pow]
  congr 1
  rw [BitVec.toNat_sub, BitVec.toNat_ofNat]
  have := most.isLt
  omega
theorem or_part (n s : Nat) (c : BitVec 8) (hn : n < 2 ^ s) (hs : s ≤ 64) : BitVec.ofNat 64 n ||| BitVec.setWidth 64 (c &&& 127#8) <<< min s 64 = BitVec.ofNat 64 (n + c.toNat % 128 * 2 ^ s) := by
  have e : BitVec.setWidth 64 (c &&& 127#8) = BitVec.ofNat 64 (c.toNat % 128) := by
    apply BitVec.eq_of_toNat_eq
    rw [and127, BitVec.toNat_ofNat]
    omega
  rw [Nat.min_eq_left hs, e, or_shl _ _ _ hn, Nat.mul_comm]
/-- How a part of the reading ends. -/
def ROut {α : Type} (bad : Bool) (m : Option (α × List (BitVec 8))) (good : α → Prop) (bs' : List (BitVec 8)) (bad' : Bool) : Prop :=
  (bad = true → bad' = true) ∧ (bad = false → match m with
    | some (a, r) => good a ∧ bs' = r ∧ bad' = false
    | none => bad' = true)
theorem ROut.imp {α : Type} {bad : Bool} {m : Option (α × List (BitVec 8))} {good good' : α → Prop} {bs' : List (BitVec 8)} {bad' : Bool} (ho : ROut bad m good bs' bad') (hg : ∀ a, good a → good' a) : ROut bad m good' bs' bad' := by
  refine ⟨ho.1, fun hb => ?_⟩
  have := ho.2 hb
  cases m with
  | none => exact this
  | some a => exact ⟨hg _ this.1, this.2⟩
theorem rnum_spec {b : Nat} {bs : List (BitVec 8)} {bad : Bool} {C : List AV} (hb : h b = some ⟨byt bs :: .bool bad :: C, 0⟩) (most : BitVec 64) :
    Spec Try.prog G 70 [.ptr b 0, .int .u64 most.toNat] h (fun r h' => ∃ (x : BitVec 64) (bs' : List (BitVec 8)) (bad' : Bool), r = .int .u64 x.toNat ∧ h' = upd h b ⟨byt bs' :: .bool bad' :: C, 0⟩ ∧
      ROut bad (rdN most.toNat bs 0 0) (fun n => x.toNat = n) bs' bad') := by
  refine Spec.walk C70ok rfl ?_
  simp only [push_cast, simprocAttr]
  refine lpc.rel [0, 1, 5, 6] (fun m ρ h' => ∃ (k n : Nat) (bs1 : List (BitVec 8)) (bad1 : Bool), m = 11 - k ∧ k ≤ 10 ∧ h' = upd h b ⟨byt bs1 :: .bool bad1 :: C, 0⟩ ∧ n < 2 ^ (7 * k) ∧ n ≤ most.toNat ∧ (bad1 = true → bad = true) ∧ (bad1 = false → bad = false ∧ rdN most.toNat bs 0 0 = rdN most.toNat bs1 k n) ∧
    ρ = [(0, .ptr b 0), (1, .int .u64 most.toNat), (5, .int .u64 (BitVec.ofNat 64 n).toNat), (6, .int .u64 (BitVec.ofNat 64 (7 * k)).toNat)]) ⟨_, 0, 0, bs, bad, rfl, by omega, by rw [upd_self hb], by simp, by omega, id, fun e => ⟨e, rfl⟩, rfl⟩ ?_
  rintro m _ _ ⟨k, n, bs1, bad1, rfl, hk, rfl, hn, hnm, hbt, hbf, rfl⟩
  cases bad1 with
  | true =>
    simp only [push_cast, simprocAttr]
    exact ⟨0, bs1, true, rfl, rfl, fun _ => rfl, fun e => by rw [hbt rfl] at e; cases e⟩
  | false =>
    obtain ⟨hbad, hrd⟩ := hbf rfl
    simp only [push_cast, simprocAttr]
    refine (take_spec (upd_same _ _ _)).to ?_
    have eK : (BitVec.ofNat 64 (7 * k)).toNat = 7 * k := by rw [BitVec.toNat_ofNat]; omega
    have part : ∀ c : BitVec 8, ¬ (most.toNat - n) / 2 ^ (7 * k) < c.toNat % 128 → n + c.toNat % 128 * 2 ^ (7 * k) ≤ most.toNat := by
      intro c hc
      have h1 : c.toNat % 128 ≤ (most.toNat - n) / 2 ^ (7 * k) := by omega
      have h2 := (Nat.le_div_iff_mul_le (Nat.two_pow_pos _)).1 h1
      omega
    have hlt : ∀ c : BitVec 8, n + c.toNat % 128 * 2 ^ (7 * k) < 2 ^ (7 * (k + 1)) := by
      intro c
      have : 2 ^ (7 * (k + 1)) = 2 ^ (7 * k) * 128 := by rw [Nat.mul_add, Nat.pow_add]
      rw [this]
      have h1 : c.toNat % 128 ≤ 127 := by omega
      have h2 := Nat.mul_le_mul_right (2 ^ (7 * k)) h1
      omega
    have hm64 := most.isLt
    simp only [push_cast, simprocAttr]
    simp only [eK, and127]
    have hno : bs1 = [] → rdN most.toNat bs 0 0 = none := fun e => by rw [hrd, e]; rfl
    have bad1 : ∀ bs', rdN most.toNat bs 0 0 = none → ROut bad (rdN most.toNat bs 0 0) (fun n => (0 : BitVec 64).toNat = n) bs' true := fun bs' e => ⟨fun _ => rfl, fun _ => by rw [e]⟩
    by_cases h10 : k = 10
    · subst h10
      have hn : rdN most.toNat bs 0 0 = none := by
        rw [hrd]
        cases bs1 with
        | nil => rfl
        | cons c r => rw [rdN, if_pos (.inl (by omega))]
      refine ⟨fun h1 => absurd h1 (by simp), fun h1 => ⟨0, _, _, rfl, rfl, bad1 _ hn⟩⟩
    · rw [shr_sub most n (7 * k) hnm (by omega)]
      cases bs1 with
      | nil =>
        refine ⟨fun h1 => ⟨fun h2 => ⟨0, _, _, rfl, rfl, bad1 _ (hno rfl)⟩, fun h2 => ⟨fun h3 => ⟨_, _, _, rfl, rfl, fun _ => rfl, fun _ => by rw [hno rfl]; rfl⟩, fun h3 => absurd (show ((0 : Int) < 128) by decide) h3⟩⟩, fun h1 => ⟨0, _, _, rfl, rfl, bad1 _ (hno rfl)⟩⟩
      | cons c r =>
        simp only [List.headD_cons, List.tail_cons, List.isEmpty_cons]
        rw [or_part n (7 * k) c hn (by omega)]
        have hp := part c
        have hl := hlt c
        refine ⟨fun h1 => ⟨fun h2 => ?_, fun h2 => ⟨fun h3 => ?_, fun h3 => ?_⟩⟩, fun h1 => ?_⟩
        · refine ⟨0, _, _, rfl, rfl, bad1 _ ?_⟩
          have hc : c = 0#8 := BitVec.eq_of_toNat_eq (by simp; omega)
          have : 0 < k := by omega
          rw [hrd, rdN, if_pos (.inr (.inr ⟨this, hc⟩))]
        · have hz : ¬ (9 < k ∨ (most.toNat - n) / 2 ^ (7 * k) < c.toNat % 128 ∨ (0 < k ∧ c = 0#8)) := by
            rintro (h | h | ⟨h, rfl⟩)
            · omega
            · simp [h] at h1
            · simp at h2; omega
          have hr : rdN most.toNat bs 0 0 = some (n + c.toNat % 128 * 2 ^ (7 * k), r) := by rw [hrd, rdN, if_neg hz, if_pos (by omega)]
          refine ⟨_, _, _, rfl, rfl, fun h => ?_, fun _ => ?_⟩
          · rw [hbad] at h; cases h
          · rw [hr]
            refine ⟨?_, rfl, rfl⟩
            have := hp (fun h => hz (.inr (.inl h)))
            rw [BitVec.toNat_ofNat, Nat.mod_eq_of_lt (by omega)]
        · have hz : ¬ (9 < k ∨ (most.toNat - n) / 2 ^ (7 * k) < c.toNat % 128 ∨ (0 < k ∧ c = 0#8)) := by
            rintro (h | h | ⟨h, rfl⟩)
            · omega
            · simp [h] at h1
            · simp at h2; omega
          have hr : rdN most.toNat bs 0 0 = rdN most.toNat r (k + 1) (n + c.toNat % 128 * 2 ^ (7 * k)) := by rw [hrd, rdN, if_neg hz, if_neg (by omega)]
          have := hp (fun h => hz (.inr (.inl h)))
          refine ⟨_, _, by omega, .refl _, k + 1, n + c.toNat % 128 * 2 ^ (7 * k), r, false, rfl, by omega, rfl, hl, this, (by intro h; cases h), fun _ => ⟨hbad, hr⟩, ?_⟩
          have e7 : BitVec.ofNat 64 (7 * k) + 7#64 = BitVec.ofNat 64 (7 * (k + 1)) := by
            rw [Nat.mul_add, BitVec.ofNat_add]
          simp only [push_cast, simprocAttr, e7]
        · refine ⟨0, _, _, rfl, rfl, bad1 _ ?_⟩
          have : (most.toNat - n) / 2 ^ (7 * k) < c.toNat % 128 := by
            simp at h1
            exact of_decide_eq_true (h1 (by omega))
          rw [hrd, rdN, if_pos (.inr (.inl this))]
theorem small_spec {b : Nat} {bs : List (BitVec 8)} {bad : Bool} {C : List AV} (hb : h b = some ⟨byt bs :: .bool bad :: C, 0⟩) :
    Spec Try.prog G 71 [.ptr b 0] h (fun r h' => ∃ (x : BitVec 32) (bs' : List (BitVec 8)) (bad' : Bool), r = .int .u32 x.toNat ∧ h' = upd h b ⟨byt bs' :: .bool bad' :: C, 0⟩ ∧
      ROut bad (rdN 4294967295 bs 0 0) (fun n => x = BitVec.ofNat 32 n) bs' bad') := by
  refine Spec.walk C71ok rfl ?_
  simp only [push_cast, simprocAttr]
  refine (rnum_spec hb 4294967295#64).mono ?_
  rintro _ _ ⟨x, bs', bad', rfl, rfl, ho⟩
  simp only [push_cast, simprocAttr]
  exact ⟨x.setWidth 32, bs', bad', rfl, rfl, ho.imp fun n hn => by rw [← hn, BitVec.ofNat_toNat]⟩
theorem csrs_spec (k : List (BitVec 32)) (hk : k.length = 7) : Spec Try.prog G 94 [.agg (wds k)] h (Is (.agg (wds (Kp.of k).l)) h) := by
  obtain ⟨a0, a1, a2, a3, a4, a5, a6, rfl⟩ : ∃ a b c d e f g, k = [a, b, c, d, e, f, g] := by
    match k, hk with
    | [a, b, c, d, e, f, g], _ => exact ⟨a, b, c, d, e, f, g, rfl⟩
  refine Spec.is C94ok rfl ?_
  simp only [push_cast, simprocAttr, Kp.l, Kp.of, wds, partOf_some]
  intro b hb
  exact ⟨rfl, (Sub.refl h).alloc hb⟩
theorem rchg_spec {b : Nat} {bs : List (BitVec 8)} {bad : Bool} (C : List (BitVec 32) → List AV) (was : List (BitVec 32)) (o c : Nat) (mask : BitVec 64) (n32 : was.length ≤ 32)
    (hget : ∀ x y l k, l.length = was.length → k < l.length → (x :: y :: C l)[o + k]? = some (AV.int .u32 (l.getD k 0#32).toNat)) (hlen : ∀ l, l.length = was.length → o + was.length ≤ (C l).length + 2)
    (hset : ∀ x y l k (v : BitVec 32), l.length = was.length → k < l.length → (x :: y :: C l).set (o + k) (AV.int .u32 v.toNat) = x :: y :: C (l.set k v)) (hb : h b = some ⟨byt bs :: .bool bad :: C was, 0⟩) :
    Spec Try.prog G 93 [.ptr b 0, .sl b o was.length c, .int .u64 mask.toNat] h (fun r h' => ∃ (l : List (BitVec 32)) (bs' : List (BitVec 8)) (bad' : Bool), h' = upd h b ⟨byt bs' :: .bool bad' :: C l, 0⟩ ∧ l.length = was.length ∧
      ROut bad (rdW was mask.toNat bs) (fun x => l = x) bs' bad') := by
  refine Spec.walk C93ok rfl ?_
  simp only [push_cast, simprocAttr]
  refine lpc.rel [0, 1, 2, 10, 11] (fun m ρ h' => ∃ (k : Nat) (l : List (BitVec 32)) (bs1 : List (BitVec 8)) (bad1 : Bool), m = was.length - k ∧ k ≤ was.length ∧ h' = upd h b ⟨byt bs1 :: .bool bad1 :: C l, 0⟩ ∧ l.length = was.length ∧ (bad = true → bad1 = true) ∧
      (bad = false → bad1 = true ∧ rdW was mask.toNat bs = none ∨ bad1 = false ∧ l.drop k = was.drop k ∧ rdW was mask.toNat bs = (rdW (was.drop k) (mask.toNat / 2 ^ k) bs1).map fun x => (l.take k ++ x.1, x.2)) ∧
      ρ = [(0, .ptr b 0), (1, .sl b o was.length c), (2, .int .u64 mask.toNat), (10, .int .i64 was.length), (11, .int .i64 k)]) ⟨_, 0, was, bs, bad, rfl, by omega, by rw [upd_self hb], rfl, id, fun hb => .inr ⟨hb, rfl, by simp⟩, rfl⟩ ?_
  rintro m _ _ ⟨k, l, bs1, bad1, rfl, hk, rfl, hl, hbt, hbf, rfl⟩
  simp only [push_cast, simprocAttr]
  refine ⟨fun hk2 => ?_, fun hk2 => ?_⟩
  · have hg := fun x y => hget x y l k hl (by omega)
    have hk3 : k < l.length := by omega
    have hbit : ∀ x : BitVec 64, ((x >>> k &&& 1#64).toNat : Int) = 0 ↔ x.toNat / 2 ^ k % 2 = 0 := by
      intro x
      have : (x >>> k &&& 1#64).toNat = x.toNat / 2 ^ k % 2 := by
        rw [BitVec.toNat_and, BitVec.toNat_ushiftRight, Nat.shiftRight_eq_div_pow]
        exact Nat.and_one_is_mod _
      rw [this]; omega
    have hd1 : was.drop k = was.getD k 0#32 :: was.drop (k + 1) := by
      rw [List.drop_eq_getElem_cons hk2]; simp [hk2]
    have hd2 : l.drop k = l.getD k 0#32 :: l.drop (k + 1) := by
      rw [List.drop_eq_getElem_cons hk3]; simp [hk3]
    have hdiv : mask.toNat / 2 ^ (k + 1) = mask.toNat / 2 ^ k / 2 := by rw [Nat.pow_succ, Nat.div_div_eq_div_mul]
    simp (disch := omega) only [push_cast, simprocAttr, wrap_i64, toNat_ofInt64, Nat.min_eq_left, Int.toNat_of_nonneg]
    rw [hbit]
    refine ⟨fun hm => ?_, fun hm => ?_⟩
    · refine ⟨_, _, by omega, .refl _, k + 1, l, bs1, bad1, rfl, by omega, rfl, hl, hbt, fun hb => ?_, rfl⟩
      rcases hbf hb with h | ⟨h1, h2, h3⟩
      · exact .inl h
      · rw [hd1, hd2, List.cons.injEq] at h2
        refine .inr ⟨h1, h2.2, ?_⟩
        rw [h3, hd1, rdW_0 hm, hdiv, Option.map_map]
        congr 1
        funext x
        simp only [Function.comp, take_snoc l k hk3, List.append_assoc, List.singleton_append, h2.1]
    · refine (take_spec (upd_same _ _ _)).to ?_
      simp only [push_cast, simprocAttr]
      refine (take_spec (upd_same _ _ _)).to ?_
      simp only [push_cast, simprocAttr]
      refine (take_spec (upd_same _ _ _)).to ?_
      simp only [push_cast, simprocAttr]
      refine (take_spec (upd_same _ _ _)).to ?_
      simp only [push_cast, simprocAttr]
      refine (Number_spec [bs1.headD 0#8, bs1.tail.headD 0#8, bs1.tail.tail.headD 0#8, bs1.tail.tail.tail.headD 0#8] (by simp)).to ?_
      have hs := fun x y v => hset x y l k v hl hk3
      have hle := hlen l hl
      have four : (bs1.length < 4 ∧ (bs1.isEmpty || bs1.tail.isEmpty || bs1.tail.tail.isEmpty || bs1.tail.tail.tail.isEmpty) = true) ∨
          (∃ a b c d r, bs1 = a :: b :: c :: d :: r) := by
        match bs1 with
        | [] => exact .inl (by simp)
        | [_] => exact .inl (by simp)
        | [_, _] => exact .inl (by simp)
        | [_, _, _] => exact .inl (by simp)
        | a :: b :: c :: d :: r => exact .inr ⟨a, b, c, d, r, rfl⟩
      have fin : ∀ B, (bad1 || bs1.isEmpty || bs1.tail.isEmpty || bs1.tail.tail.isEmpty || bs1.tail.tail.tail.isEmpty) = B → ∀ B', (B = true → B' = true) → (B = false → B' = decide (BitVec.ofNat 32 (leN [bs1.headD 0#8, bs1.tail.headD 0#8, bs1.tail.tail.headD 0#8, bs1.tail.tail.tail.headD 0#8]) = l.getD k 0#32)) →
          (bad = true → B' = true) ∧ (bad = false → B' = true ∧ rdW was mask.toNat bs = none ∨ B' = false ∧ (l.set k (BitVec.ofNat 32 (leN [bs1.headD 0#8, bs1.tail.headD 0#8, bs1.tail.tail.headD 0#8, bs1.tail.tail.tail.headD 0#8]))).drop (k + 1) = was.drop (k + 1) ∧
            rdW was mask.toNat bs = (rdW (was.drop (k + 1)) (mask.toNat / 2 ^ (k + 1)) bs1.tail.tail.tail.tail).map fun x => ((l.set k (BitVec.ofNat 32 (leN [bs1.headD 0#8, bs1.tail.headD 0#8, bs1.tail.tail.headD 0#8, bs1.tail.tail.tail.headD 0#8]))).take (k + 1) ++ x.1, x.2)) := by
        intro B hB B' h1 h2
        refine ⟨fun hb => h1 (by rw [← hB, hbt hb]; rfl), fun hb => ?_⟩
        rcases hbf hb with ⟨e1, e2⟩ | ⟨e1, e2, e3⟩
        · exact .inl ⟨h1 (by rw [← hB, e1]; rfl), e2⟩
        · rw [e1] at hB
          rcases four with ⟨f1, f2⟩ | ⟨a, b, c, d, r, rfl⟩
          · refine .inl ⟨h1 (by rw [← hB, Bool.false_or]; exact f2), ?_⟩
            rw [e3, hd1, rdW_n hm f1]
            rfl
          · have hBf : B = false := by rw [← hB]; rfl
            have e4 := h2 hBf
            simp only [List.headD_cons, List.tail_cons] at e4 ⊢
            rw [hd1, hd2, List.cons.injEq] at e2
            rw [e2.1] at e4
            rw [e3, hd1, rdW_1 hm]
            by_cases hc : BitVec.ofNat 32 (leN [a, b, c, d]) = was.getD k 0#32
            · exact .inl ⟨e4.trans (decide_eq_true hc), by rw [if_pos hc]; rfl⟩
            · refine .inr ⟨e4.trans (decide_eq_false hc), by rw [List.drop_set_of_lt (by omega), e2.2], ?_⟩
              rw [if_neg hc, hdiv, Option.map_map]
              congr 1
              funext x
              simp only [Function.comp]
              rw [List.take_add_one, List.take_set_of_le (by omega), List.getElem?_set_self hk3]
              simp
      generalize hB : (bad1 || bs1.isEmpty || bs1.tail.isEmpty || bs1.tail.tail.isEmpty || bs1.tail.tail.tail.isEmpty) = B
      generalize hX : BitVec.ofNat 32 (leN [bs1.headD 0#8, bs1.tail.headD 0#8, bs1.tail.tail.headD 0#8, bs1.tail.tail.tail.headD 0#8]) = X at fin ⊢
      cases B with
      | true =>
        simp (disch := omega) only [push_cast, simprocAttr, wrap_i64, toNat_ofInt64, Nat.min_eq_left, Int.toNat_of_nonneg, hB, hX, hg, hs]
        obtain ⟨q1, q2⟩ := fin true hB true (fun _ => rfl) (fun e => by cases e)
        exact ⟨hk2, by omega, _, _, by omega, .refl _, k + 1, _, _, true, rfl, by omega, rfl, by rw [List.length_set]; exact hl, q1, q2, rfl⟩
      | false =>
        simp (disch := omega) only [push_cast, simprocAttr, wrap_i64, toNat_ofInt64, Nat.min_eq_left, Int.toNat_of_nonneg, hB, hX, hg, hs]
        obtain ⟨q1, q2⟩ := fin false hB (decide (X = l.getD k 0#32)) (fun e => by cases e) (fun _ => rfl)
        exact ⟨hk2, hk2, by omega, _, _, by omega, .refl _, k + 1, _, _, decide (X = l.getD k 0#32), rfl, by omega, rfl, by rw [List.length_set]; exact hl, q1, q2, rfl⟩
  · obtain rfl : k = was.length := by omega
    refine ⟨l, bs1, bad1, rfl, hl, hbt, fun hb => ?_⟩
    rcases hbf hb with ⟨h1, h2⟩ | ⟨h1, h2, h3⟩
    · rw [h2]; exact h1
    · rw [h3, List.drop_length, ← hl, List.take_length]
      exact ⟨by simp, rfl, h1⟩
theorem Past.Creg {p : Past} (x y : AV) (k : Nat) (hk : k < 32) : (x :: y :: p.cells)[3 + k]? = some (.int .u32 (p.regs.toList.getD k 0#32).toNat) := by
  rw [show 3 + k = (1 + k) + 1 + 1 by omega, List.getElem?_cons_succ, List.getElem?_cons_succ]
  exact p.reg k hk
def cellR (p : Past) (l : List (BitVec 32)) : List AV := .int .u64 p.tick.toNat :: (wds l ++ wds p.kept.l)
def cellK (p : Past) (l : List (BitVec 32)) : List AV := .int .u64 p.tick.toNat :: (wds p.regs.toList ++ wds l)
theorem wds_set (l : List (BitVec 32)) (k : Nat) (v : BitVec 32) : (wds l).set k (AV.int .u32 (v.toNat : Int)) = wds (l.set k v) := by
  simp [wds, List.map_set]
theorem rchgR_spec {b : Nat} {bs : List (BitVec 8)} {bad : Bool} {p : Past} (hb : h b = some ⟨byt bs :: .bool bad :: p.cells, 0⟩) (mask : BitVec 64) :
    Spec Try.prog G 93 [.ptr b 0, .sl b 3 32 32, .int .u64 mask.toNat] h (fun r h' => ∃ (l : Rg) (bs' : List (BitVec 8)) (bad' : Bool), h' = upd h b ⟨byt bs' :: .bool bad' :: Past.cells ⟨p.tick, l, p.kept⟩, 0⟩ ∧
      ROut bad (rdW p.regs.toList mask.toNat bs) (fun x => l = Rg.of x) bs' bad') := by
  have hcr := rchg_spec (G := G) (h := h) (b := b) (bs := bs) (bad := bad) (cellR p) p.regs.toList 3 32 mask (by simp) ?_ ?_ ?_ hb
  · rw [Vector.length_toList] at hcr
    refine hcr.mono ?_
    rintro r h' ⟨l, bs', bad', rfl, hl, ho⟩
    refine ⟨Rg.of l, bs', bad', ?_, ho.imp fun x hx => by rw [hx]⟩
    simp only [Past.cells, cellR, Rg.of_l l hl]
  · intro x y l k hl hk
    rw [show 3 + k = k + 1 + 1 + 1 by omega]
    simp only [List.getElem?_cons_succ, cellR]
    rw [List.getElem?_append_left (by rw [wds_len]; exact hk), wds_get, if_pos hk]
  · intro l hl
    simp only [cellR, List.length_cons, List.length_append, wds_len]
    omega
  · intro x y l k v hl hk
    rw [show 3 + k = k + 1 + 1 + 1 by omega]
    simp only [List.set_cons_succ, cellR]
    rw [List.set_append_left _ _ (by rw [wds_len]; exact hk), wds_set]
theorem rchgK_spec {b : Nat} {bs : List (BitVec 8)} {bad : Bool} {p : Past} (hb : h b = some ⟨byt bs :: .bool bad :: p.cells, 0⟩) (mask : BitVec 64) :
    Spec Try.prog G 93 [.ptr b 0, .sl b 35 7 7, .int .u64 mask.toNat] h (fun r h' => ∃ (l : Kp) (bs' : List (BitVec 8)) (bad' : Bool), h' = upd h b ⟨byt bs' :: .bool bad' :: Past.cells ⟨p.tick, p.regs, l⟩, 0⟩ ∧
      ROut bad (rdW p.kept.l mask.toNat bs) (fun x => l = Kp.of x) bs' bad') := by
  have hr : (wds p.regs.toList).length = 32 := by rw [wds_len, Vector.length_toList]
  have hcr := rchg_spec (G := G) (h := h) (b := b) (bs := bs) (bad := bad) (cellK p) p.kept.l 35 7 mask (by simp [Kp.l]) ?_ ?_ ?_ hb
  · rw [Kp.l_len] at hcr
    refine hcr.mono ?_
    rintro r h' ⟨l, bs', bad', rfl, hl, ho⟩
    refine ⟨Kp.of l, bs', bad', ?_, ho.imp fun x hx => by rw [hx]⟩
    simp only [Past.cells, cellK, Kp.of_l l hl]
  · intro x y l k hl hk
    rw [show 35 + k = (32 + k) + 1 + 1 + 1 by omega]
    simp only [List.getElem?_cons_succ, cellK]
    rw [List.getElem?_append_right (by omega), hr, Nat.add_sub_cancel_left, wds_get, if_pos hk]
  · intro l hl
    rw [Kp.l_len] at hl ⊢
    simp only [cellK, List.length_cons, List.length_append, hr, wds_len]
    omega
  · intro x y l k v hl hk
    rw [show 35 + k = (32 + k) + 1 + 1 + 1 by omega]
    simp only [List.set_cons_succ, cellK]
    rw [List.set_append_right _ _ (by omega), hr, Nat.add_sub_cancel_left, wds_set]
theorem trapR_spec {b : Nat} {bs : List (BitVec 8)} {bad : Bool} {p : Past} (hb : h b = some ⟨byt bs :: .bool bad :: p.cells, 0⟩) (e : Evt) :
    Spec Try.prog G 72 [.ptr b 0, .agg e.cells] h (fun r h' => ∃ (e' : Evt) (bs' : List (BitVec 8)) (bad' : Bool) (p' : Past), r = .agg e'.cells ∧ h' = upd h b ⟨byt bs' :: .bool bad' :: p'.cells, 0⟩ ∧
      ROut bad (rdT e p bs) (fun x => e' = x ∧ p' = ⟨p.tick, x.regs, x.csrs⟩) bs' bad') := by
  refine Spec.drop ?_
  refine Spec.walk C72ok rfl ?_
  simp only [push_cast, simprocAttr]
  intro b3 hb3 b4 hb4
  have hb4' := upd_none hb4
  have n3 := ne_of hb3 hb
  have n4 := ne_of hb4'.2 hb
  refine (small_spec (bs := bs) (bad := bad) (C := p.cells) (by rw [upd_ne n4.symm, upd_ne n3.symm]; exact hb)).mono ?_
  rintro _ _ ⟨cause, bs1, bad1, rfl, rfl, ho1⟩
  simp only [push_cast, simprocAttr]
  refine (small_spec (upd_same _ _ _)).mono ?_
  rintro _ _ ⟨epc, bs2, bad2, rfl, rfl, ho2⟩
  simp only [push_cast, simprocAttr]
  refine (small_spec (upd_same _ _ _)).mono ?_
  rintro _ _ ⟨tval, bs3, bad3, rfl, rfl, ho3⟩
  have F : ∀ (P : Prop), (¬ b3 = b → ¬ b4 = b → ¬ b = b3 → ¬ b = b4 → ¬ b4 = b3 → ¬ b3 = b4 → P) → P := fun P hp => hp n3 n4 n3.symm n4.symm hb4'.1 hb4'.1.symm
  refine F _ fun f1 f2 f3 f4 f5 f6 => ?_
  simp only [push_cast, simprocAttr, upd_at, f1, f2, f3, f4, f5, f6, zero_evt]
  refine (small_spec (bs := bs3) (bad := bad3) (C := p.cells) (by simp only [upd_at, if_true, f1, f2, f3, f4, f5, f6, if_false])).mono ?_
  rintro _ _ ⟨mask, bs4, bad4, rfl, rfl, ho4⟩
  simp only [push_cast, simprocAttr, upd_at, f1, f2, f3, f4, f5, f6, zero_evt]
  refine (rchgR_spec (upd_same _ _ _) (mask.setWidth 64)).mono ?_
  rintro _ _ ⟨regs, bs5, bad5, rfl, ho5⟩
  simp only [push_cast, simprocAttr, upd_at, f1, f2, f3, f4, f5, f6]
  refine (take_spec (upd_same _ _ _)).to ?_
  simp only [push_cast, simprocAttr, upd_at, f1, f2, f3, f4, f5, f6]
  refine (rchgK_spec (upd_same _ _ _) (BitVec.setWidth 64 (bs5.headD 0#8))).mono ?_
  rintro _ _ ⟨kept, bs7, bad7, rfl, ho7⟩
  simp only [push_cast, simprocAttr, upd_at, f1, f2, f3, f4, f5, f6]
  refine (csrs_spec kept.l rfl).to ?_
  simp only [push_cast, simprocAttr, upd_at, f1, f2, f3, f4, f5, f6, Kp.of_self]
  refine ⟨upd h b ⟨byt bs7 :: .bool bad7 :: Past.cells ⟨p.tick, regs, kept⟩, 0⟩, ?_, _, bs7, bad7, ⟨p.tick, regs, kept⟩, rfl, rfl, ?_⟩
  · intro c y hc
    rw [upd_at] at hc
    split at hc
    · rename_i e
      subst e
      cases hc
      simp only [upd_at, if_true, f1, f2, f3, f4, f5, f6, if_false]
    · rename_i e
      have c3 : ¬ c = b3 := fun h => by rw [h, hb3] at hc; cases hc
      have c4 : ¬ c = b4 := fun h => by rw [h, hb4'.2] at hc; cases hc
      simp only [upd_at, e, c3, c4, if_false]
      exact hc
  · have t5 : bad5 = true → bad7 = true := fun h => ho7.1 (by rw [h]; rfl)
    have t4 : bad4 = true → bad7 = true := fun h => t5 (ho5.1 h)
    have t3 : bad3 = true → bad7 = true := fun h => t4 (ho4.1 h)
    have t2 : bad2 = true → bad7 = true := fun h => t3 (ho3.1 h)
    have t1 : bad1 = true → bad7 = true := fun h => t2 (ho2.1 h)
    refine ⟨fun h => t1 (ho1.1 h), fun h => ?_⟩
    have q1 := ho1.2 h
    unfold rdT
    cases e1 : rdN 4294967295 bs 0 0 with
    | none => rw [e1] at q1; exact t1 q1
    | some x1 =>
      rw [e1] at q1
      obtain ⟨rfl, rfl, g1⟩ := q1
      have q2 := ho2.2 g1
      simp only [Option.bind_eq_bind, Option.bind_some]
      cases e2 : rdN 4294967295 x1.2 0 0 with
      | none => rw [e2] at q2; exact t2 q2
      | some x2 =>
        rw [e2] at q2
        obtain ⟨rfl, rfl, g2⟩ := q2
        have q3 := ho3.2 g2
        simp only [Option.bind_some]
        cases e3 : rdN 4294967295 x2.2 0 0 with
        | none => rw [e3] at q3; exact t3 q3
        | some x3 =>
          rw [e3] at q3
          obtain ⟨rfl, rfl, g3⟩ := q3
          have q4 := ho4.2 g3
          simp only [Option.bind_some]
          cases e4 : rdN 4294967295 x3.2 0 0 with
          | none => rw [e4] at q4; exact t4 q4
          | some x4 =>
            rw [e4] at q4
            obtain ⟨hx4, rfl, g4⟩ := q4
            have q5 := ho5.2 g4
            have hlt : x4.1 < 2 ^ 32 := by have := (rdN_le _ _ _ _ e4 (by omega)).1; omega
            have hm : (BitVec.setWidth 64 mask).toNat = x4.1 := by rw [sw64, hx4, BitVec.toNat_ofNat, Nat.mod_eq_of_lt hlt]
            rw [hm] at q5
            simp only [Option.bind_some]
            cases e5 : rdW p.regs.toList x4.1 x4.2 with
            | none => rw [e5] at q5; exact t5 q5
            | some x5 =>
              rw [e5] at q5
              obtain ⟨rfl, rfl, g5⟩ := q5
              simp only [Option.bind_some]
              cases e6 : x5.2 with
              | nil =>
                rw [e6, g5] at ho7
                exact ho7.1 rfl
              | cons c r =>
                rw [e6, g5] at ho7
                simp only [List.headD_cons, List.isEmpty_cons, Bool.or_self, Bool.false_or, List.tail_cons, sw64_8] at ho7
                by_cases hc : c.toNat > 127
                · simp only [hc, if_true]
                  exact ho7.1 (decide_eq_true (by omega))
                · simp only [hc, if_false]
                  have q7 := ho7.2 (decide_eq_false (by omega))
                  cases e7 : rdW p.kept.l c.toNat r with
                  | none => rw [e7] at q7; exact q7
                  | some x7 =>
                    rw [e7] at q7
                    obtain ⟨rfl, rfl, g7⟩ := q7
                    simp only [Option.bind_some]
                    simp [g7]
theorem eventR_spec {b : Nat} {bs : List (BitVec 8)} {bad : Bool} {p : Past} (hb : h b = some ⟨byt bs :: .bool bad :: p.cells, 0⟩) (hbs : bs ≠ []) :
    Spec Try.prog G 53 [.ptr b 0] h (fun r h' => ∃ (e' : Evt) (bs' : List (BitVec 8)) (bad' : Bool) (p' : Past), r = .agg e'.cells ∧ h' = upd h b ⟨byt bs' :: .bool bad' :: p'.cells, 0⟩ ∧
      ROut bad (rdE p bs) (fun x => e' = x ∧ p' = evP x p) bs' bad') := by
  refine Spec.drop ?_
  refine Spec.walk C53ok rfl ?_
  simp only [push_cast, simprocAttr]
  intro b2 hb2
  have f1 := ne_of hb2 hb
  obtain ⟨c, b1, rfl⟩ : ∃ c b1, bs = c :: b1 := by
    cases bs with
    | nil => exact absurd rfl hbs
    | cons c r => exact ⟨c, r, rfl⟩
  refine (take_spec (bs := c :: b1) (bad := bad) (C := p.cells) (by rw [upd_ne f1.symm]; exact hb)).to ?_
  simp only [push_cast, simprocAttr, List.headD_cons, List.tail_cons, List.isEmpty_cons]
  intro b3 hb3
  have hb3' := upd_none hb3
  have hb3'' := upd_none hb3'.2
  have f2 : ¬ b3 = b := hb3'.1
  have f3 : ¬ b3 = b2 := hb3''.1
  have f4 : ¬ b2 = b := f1
  have f5 := Ne.symm f1
  have f6 := Ne.symm f2
  have f7 := Ne.symm f3
  simp only [push_cast, simprocAttr, upd_at, f2, f3, f4, f5, f6, f7, kd_evt]
  refine (rnum_spec (bs := b1) (bad := bad) (C := p.cells) (by simp only [upd_at, if_true, f2, f3, f4, f5, f6, f7, if_false]) (18446744073709551615#64 - p.tick)).mono ?_
  rintro _ _ ⟨x, bs2, bad2, rfl, rfl, ho2⟩
  simp only [push_cast, simprocAttr, upd_at, f2, f3, f4, f5, f6, f7, kd_evt]
  have SUB : ∀ (H : Heap) (R : Blk), (∀ d, d ≠ b2 → d ≠ b3 → d ≠ b → H d = h d) → H b = some R → Sub (upd h b R) H := by
    intro H R h1 h2 d y hd
    rw [upd_at] at hd
    split at hd
    · rename_i e; rw [e, h2]; exact hd
    · rename_i e
      rw [h1 d (fun e => by rw [e, hb2] at hd; cases hd) (fun e => by rw [e, hb3''.2] at hd; cases hd) e]
      exact hd
  have hm : (18446744073709551615#64 - p.tick).toNat = 18446744073709551615 - p.tick.toNat := by
    have := p.tick.isLt
    rw [BitVec.toNat_sub]
    simp only [BitVec.toNat_ofNat]
    omega
  rw [hm] at ho2
  have hev : bad = false → rdN (18446744073709551615 - p.tick.toNat) b1 0 0 = none ∧ bad2 = true ∨ ∃ n r, rdN (18446744073709551615 - p.tick.toNat) b1 0 0 = some (n, r) ∧ p.tick + x = BitVec.ofNat 64 (p.tick.toNat + n) ∧ bs2 = r ∧ bad2 = false := by
    intro hbad
    have q := ho2.2 hbad
    cases e : rdN (18446744073709551615 - p.tick.toNat) b1 0 0 with
    | none => rw [e] at q; exact .inl ⟨rfl, q⟩
    | some y =>
      rw [e] at q
      refine .inr ⟨_, _, rfl, ?_, q.2.1, q.2.2⟩
      have := q.1
      apply BitVec.eq_of_toNat_eq
      rw [BitVec.toNat_add, BitVec.toNat_ofNat, this]
  refine ⟨fun hk => ?_, fun hk => ⟨fun hk3 => ?_, fun hk3 => ⟨fun hk2 => ?_, fun hk2 => ?_⟩⟩⟩
  · have hk' : c.toNat = 1 := by omega
    refine (take_spec (bs := bs2) (bad := bad2) (C := Past.cells ⟨p.tick + x, p.regs, p.kept⟩) (by simp only [upd_at, if_true, f2, f3, f4, f5, f6, f7, if_false])).to ?_
    simp only [push_cast, simprocAttr, upd_at, f2, f3, f4, f5, f6, f7]
    refine ⟨_, SUB _ _ (fun d d1 d2 d3 => by simp only [upd_at, d1, d2, d3, if_false]) (by simp only [upd_at, if_true, f2, f3, f4, f5, f6, f7, if_false]), _, bs2.tail, bad2 || bs2.isEmpty, ⟨p.tick + x, p.regs, p.kept⟩, rfl, rfl, fun h => by rw [ho2.1 h]; rfl, fun h => ?_⟩
    unfold rdE
    rcases hev h with ⟨e1, e2⟩ | ⟨n, r, e1, e2, rfl, rfl⟩
    · simp [e1, e2]
    · simp only [e1, Option.bind_eq_bind, Option.bind_some, hk', if_true]
      cases bs2 with
      | nil => rfl
      | cons v r => simp [e2, evP]
  · have hk' : c.toNat = 3 := by omega
    refine (small_spec (bs := bs2) (bad := bad2) (C := Past.cells ⟨p.tick + x, p.regs, p.kept⟩) (by simp only [upd_at, if_true, f2, f3, f4, f5, f6, f7, if_false])).mono ?_
    rintro _ _ ⟨v, bs3, bad3, rfl, rfl, ho3⟩
    simp only [push_cast, simprocAttr, upd_at, f2, f3, f4, f5, f6, f7]
    refine ⟨_, SUB _ _ (fun d d1 d2 d3 => by simp only [upd_at, d1, d2, d3, if_false]) (by simp only [upd_at, if_true, f2, f3, f4, f5, f6, f7, if_false]), _, bs3, bad3, ⟨p.tick + x, p.regs, p.kept⟩, rfl, rfl, fun h => ho3.1 (ho2.1 h), fun h => ?_⟩
    unfold rdE
    rcases hev h with ⟨e1, e2⟩ | ⟨n, r, e1, e2, rfl, rfl⟩
    · simp [e1, ho3.1 e2]
    · have q := ho3.2 rfl
      simp only [e1, Option.bind_eq_bind, Option.bind_some, hk']
      cases e3 : rdN 4294967295 bs2 0 0 with
      | none => rw [e3] at q; simpa using q
      | some y =>
        rw [e3] at q
        simp [e2, evP, q.1, q.2.1, q.2.2]
  · have hk' : c.toNat = 2 := by omega
    refine (trapR_spec (bs := bs2) (bad := bad2) (p := ⟨p.tick + x, p.regs, p.kept⟩) (by simp only [upd_at, if_true, f2, f3, f4, f5, f6, f7, if_false]) _).mono ?_
    rintro _ _ ⟨e', bs3, bad3, p', rfl, rfl, ho3⟩
    simp only [push_cast, simprocAttr, upd_at, f2, f3, f4, f5, f6, f7]
    refine ⟨_, SUB _ _ (fun d d1 d2 d3 => by simp only [upd_at, d1, d2, d3, if_false]) (by simp only [upd_at, if_true, f2, f3, f4, f5, f6, f7, if_false]), e', bs3, bad3, p', rfl, rfl, fun h => ho3.1 (ho2.1 h), fun h => ?_⟩
    unfold rdE
    rcases hev h with ⟨e1, e2⟩ | ⟨n, r, e1, e2, rfl, rfl⟩
    · simp [e1, ho3.1 e2]
    · have q := ho3.2 rfl
      simp only [e1, Option.bind_eq_bind, Option.bind_some, hk']
      rw [e2] at q
      simp only [hk'] at q
      rw [rdT_past] at q
      simp only [Nat.reduceEqDiff, if_false, if_true]
      generalize hE : rdT _ p bs2 = R at q ⊢
      cases R with
      | none => exact q
      | some y =>
        obtain ⟨k1, k2, _⟩ := rdT_kind hE
        obtain ⟨⟨rfl, rfl⟩, rfl, q3⟩ := q
        refine ⟨⟨rfl, ?_⟩, rfl, q3⟩
        simp [evP, k1, k2]
  · have k1 : ¬ c.toNat = 1 := by omega
    have k2 : ¬ c.toNat = 2 := by omega
    have k3 : ¬ c.toNat = 3 := by omega
    refine ⟨_, SUB _ _ (fun d d1 d2 d3 => by simp only [upd_at, d1, d2, d3, if_false]) (by simp only [upd_at, if_true, f2, f3, f4, f5, f6, f7, if_false]), _, bs2, true, ⟨p.tick + x, p.regs, p.kept⟩, rfl, rfl, fun h => rfl, fun h => ?_⟩
    unfold rdE
    cases e1 : rdN (18446744073709551615 - p.tick.toNat) b1 0 0 with
    | none => simp [e1]
    | some y => simp [e1, k1, k2, k3]
end Go.Ab
