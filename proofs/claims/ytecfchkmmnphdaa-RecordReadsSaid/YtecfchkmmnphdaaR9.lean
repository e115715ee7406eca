/- Contracts of the document's record: what is read. -/
import Derived.Test.YtecfchkmmnphdaaR8
set_option linter.unusedSimpArgs false
set_option linter.unusedVariables false
namespace Go.Ab
open Go.Proofs
variable {G : Glo} {h : Heap}
theorem rdN_suf {most : Nat} : ∀ (bs : List (BitVec 8)) (k n : Nat) (x : Nat × List (BitVec 8)), rdN most bs k n = some x → ∃ j, 0 < j ∧ j ≤ bs.length ∧ x.2 = bs.drop j := by
  intro bs
  induction bs with
  | nil => intro k n x h; simp [rdN] at h
  | cons c r ih =>
    intro k n x h
    rw [rdN] at h
    split at h
    · cases h
    · split at h
      · cases h; exact ⟨1, by omega, by simp, rfl⟩
      · obtain ⟨j, h1, h2, h3⟩ := ih _ _ _ h
        exact ⟨j + 1, by omega, by simp; omega, by rw [h3]; rfl⟩
/-- A number at a place, and the place behind it. -/
def numV (b : List (BitVec 8)) (o : Option (Nat × List (BitVec 8))) : AV := match o with
  | some (n, r) => .tup [.int .u64 (n : Int), .int .i64 ((b.length - r.length : Nat) : Int)]
  | none => .tup [.int .u64 0, .int .i64 (-1)]
theorem suf_pos {b r : List (BitVec 8)} {a j : Nat} (hj : r = (b.drop a).drop j) (hle : j ≤ (b.drop a).length) (ha : a ≤ b.length) : b.drop (b.length - r.length) = r ∧ b.length - r.length = a + j := by
  have hl : (b.drop a).length = b.length - a := by simp
  have e : b.length - r.length = a + j := by rw [hj]; simp; omega
  exact ⟨by rw [e, hj, List.drop_drop], e⟩
theorem rnumber_spec (b : List (BitVec 8)) (a : Nat) (most : BitVec 64) (hb : b.length ≤ 140737488355328) (ha : a ≤ b.length) :
    Spec Try.prog G 73 [byt b, .int .i64 a, .int .u64 most.toNat] h (Is (numV b (rdN most.toNat (b.drop a) 0 0)) h) := by
  refine Spec.is C73ok rfl ?_
  simp only [push_cast, simprocAttr]
  refine lpc.rel [0, 1, 2, 8, 9] (fun m ρ h' => ∃ (k n : Nat), m = 10 - k ∧ k ≤ 10 ∧ a + k ≤ b.length ∧ h = h' ∧ n < 2 ^ (7 * k) ∧ n ≤ most.toNat ∧ rdN most.toNat (b.drop a) 0 0 = rdN most.toNat (b.drop (a + k)) k n ∧
    ρ = [(0, byt b), (1, .int .i64 a), (2, .int .u64 most.toNat), (8, .int .u64 (BitVec.ofNat 64 n).toNat), (9, .int .i64 k)]) ⟨_, 0, 0, rfl, by omega, by omega, rfl, by simp, by omega, rfl, rfl⟩ ?_
  rintro m _ _ ⟨k, n, rfl, hk, hak, rfl, hn, hnm, hrd, rfl⟩
  have hm64 := most.isLt
  simp (disch := omega) only [push_cast, simprocAttr, wrap_i64, toNat_ofInt64, Nat.min_eq_left, Int.toNat_of_nonneg]
  refine ⟨fun hc => ?_, fun hc => ?_⟩
  · have hk9 : k ≤ 9 := by omega
    have hlt : a + k < b.length := by omega
    have ei : ((a : Int) + (k : Int)).toNat = a + k := by omega
    have e7 : (7 * (k : Int)) = ((7 * k : Nat) : Int) := by omega
    have hdr : b.drop (a + k) = b.getD (a + k) 0#8 :: b.drop (a + k + 1) := by
      rw [List.drop_eq_getElem_cons hlt]; simp [hlt]
    have hP := Power_spec (G := G) (h := h) (7 * k) (by omega)
    rw [hdr] at hrd
    rw [e7, ei]
    generalize hcx : b.getD (a + k) 0#8 = c at *
    refine ⟨by omega, hlt, hP.to ?_⟩
    have hsub : ((most - BitVec.ofNat 64 n)).toNat = most.toNat - n := by
      rw [BitVec.toNat_sub, BitVec.toNat_ofNat]; omega
    have eq : ∀ x : BitVec 64, (BitVec.ofInt 64 ((x.toNat : Int).tdiv (2 ^ (7 * k)))) = x >>> (7 * k) := by
      intro x
      rw [tdiv_pow, ofInt_toNat, BitVec.setWidth_eq]
    simp (disch := omega) only [push_cast, simprocAttr, wrap_i64, toNat_ofInt64, Nat.min_eq_left, Int.toNat_of_nonneg]
    have eT : ((BitVec.setWidth 64 c).toNat : Int).tmod 128 = ((c.toNat % 128 : Nat) : Int) := by rw [sw64_8]; rfl
    have eS : ((most - BitVec.ofNat 64 n) >>> (7 * k)).toNat = (most.toNat - n) / 2 ^ (7 * k) := by
      rw [BitVec.toNat_ushiftRight, Nat.shiftRight_eq_div_pow, hsub]
    simp only [eT, eS]
    have hbad : (most.toNat - n) / 2 ^ (7 * k) < c.toNat % 128 → rdN most.toNat (b.drop a) 0 0 = none := fun h => by rw [hrd, rdN, if_pos (.inr (.inl h))]
    have hle9 : k = 9 → (most.toNat - n) / 2 ^ (7 * k) ≤ 1 := by
      rintro rfl
      have : (most.toNat - n) < 2 * 2 ^ (7 * 9) := by omega
      have := (Nat.div_lt_iff_lt_mul (Nat.two_pow_pos (7 * 9))).2 this
      omega
    refine ⟨fun hp => ⟨fun h9 => ?_, fun h9 => ?_⟩, fun hp => ?_⟩
    · have hp2 : (most.toNat - n) / 2 ^ (7 * k) < c.toNat % 128 := by have := hle9 (by omega); omega
      rw [hbad hp2]; rfl
    · have hp2 : ¬ (most.toNat - n) / 2 ^ (7 * k) < c.toNat % 128 := by
        intro h
        rw [decide_eq_true (by omega)] at hp
        cases hp
      have hmul : c.toNat % 128 * 2 ^ (7 * k) ≤ most.toNat - n := (Nat.le_div_iff_mul_le (Nat.two_pow_pos _)).1 (by omega)
      have hP2 := hP
      rw [e7]
      refine hP2.to ?_
      have en : BitVec.ofNat 64 n + BitVec.ofInt 64 ((c.toNat : Int) % 128 * 2 ^ (7 * k)) = BitVec.ofNat 64 (n + c.toNat % 128 * 2 ^ (7 * k)) := by
        have : ((c.toNat : Int) % 128 * 2 ^ (7 * k)) = ((c.toNat % 128 * 2 ^ (7 * k) : Nat) : Int) := by push_cast; rfl
        rw [this, BitVec.ofInt_natCast, ← BitVec.ofNat_add]
      simp (disch := omega) only [push_cast, simprocAttr, wrap_i64, toNat_ofInt64, Nat.min_eq_left, Int.toNat_of_nonneg]
      rw [ei, hcx, en]
      have hz9 : ¬ (9 < k ∨ (most.toNat - n) / 2 ^ (7 * k) < c.toNat % 128 ∨ (0 < k ∧ c = 0#8)) → rdN most.toNat (b.drop a) 0 0 = if c.toNat < 128 then some (n + c.toNat % 128 * 2 ^ (7 * k), b.drop (a + k + 1)) else rdN most.toNat (b.drop (a + k + 1)) (k + 1) (n + c.toNat % 128 * 2 ^ (7 * k)) := by
        intro h; rw [hrd, rdN, if_neg h]
      refine ⟨by omega, hlt, fun h128 => ?_, fun h128 => ⟨fun hz => ?_, fun hz => ?_⟩⟩
      · have hr := hz9 (by
          rintro (h | h | ⟨h, rfl⟩)
          · omega
          · exact hp2 h
          · simp at h128)
        rw [if_neg (by omega)] at hr
        have hlt2 : n + c.toNat % 128 * 2 ^ (7 * k) < 2 ^ (7 * (k + 1)) := by
          have : 2 ^ (7 * (k + 1)) = 2 ^ (7 * k) * 128 := by rw [Nat.mul_add, Nat.pow_add]
          rw [this]
          have h1 : c.toNat % 128 ≤ 127 := by omega
          have h2 := Nat.mul_le_mul_right (2 ^ (7 * k)) h1
          omega
        exact ⟨_, _, by omega, .refl _, k + 1, n + c.toNat % 128 * 2 ^ (7 * k), rfl, by omega, by omega, rfl, hlt2, by omega, hr, rfl⟩
      · have hc0 : c = 0#8 := BitVec.eq_of_toNat_eq (by simp; omega)
        have : rdN most.toNat (b.drop a) 0 0 = none := by rw [hrd, rdN, if_pos (.inr (.inr ⟨by omega, hc0⟩))]
        rw [this]; rfl
      · have hr := hz9 (by
          rintro (h | h | ⟨h, rfl⟩)
          · omega
          · exact hp2 h
          · rw [decide_eq_true (by omega)] at hz
            cases hz)
        rw [if_pos (by omega)] at hr
        rw [hr]
        have h64 : (BitVec.ofNat 64 (n + c.toNat % 128 * 2 ^ (7 * k))).toNat = n + c.toNat % 128 * 2 ^ (7 * k) := by rw [BitVec.toNat_ofNat, Nat.mod_eq_of_lt (by omega)]
        rw [h64]
        simp only [numV]
        have : b.length - (b.drop (a + k + 1)).length = a + k + 1 := by rw [List.length_drop]; omega
        rw [this]
        rfl
    · have hp2 : (most.toNat - n) / 2 ^ (7 * k) < c.toNat % 128 := Decidable.byContradiction fun h => by
        rw [decide_eq_false (by omega)] at hp
        cases hp
      rw [hbad hp2]; rfl
  · have hnone : rdN most.toNat (b.drop a) 0 0 = none := by
      rw [hrd]
      have hc2 : ¬ (k < 10 ∧ a + k < b.length) := by
        intro ⟨h1, h2⟩
        have q1 : decide ((k : Int) < 10) = true := decide_eq_true (by omega)
        have q2 : decide ((a : Int) + (k : Int) < (b.length : Int)) = true := decide_eq_true (by omega)
        rw [q1, q2] at hc
        cases hc
      by_cases hk10 : k < 10
      · have : b.drop (a + k) = [] := List.drop_eq_nil_of_le (by omega)
        rw [this]; rfl
      · cases hbs : b.drop (a + k) with
        | nil => rfl
        | cons c r => rw [rdN, if_pos (.inl (by omega))]
    rw [hnone]; rfl
/-- A row of one's own that has elements, as it lies. -/
theorem Own.lie {sz n : Nat} {g : Heap} {v : AV} {cells : List AV} (ho : Own sz g v cells n h) (hn : 0 < n) : ∃ b pre cap sp, v = .sl b pre.length n cap ∧ h b = some ⟨pre ++ cells, sp⟩ ∧
    (∀ cells', cells'.length = cells.length → Own sz g v cells' n (Ab.upd h b ⟨pre ++ cells', sp⟩)) := by
  cases ho with
  | nil => omega
  | row b n cap pre cells sp hb hl hc =>
    refine ⟨b, pre, cap, sp, rfl, upd_same _ _ _, fun cells' hl' => ?_⟩
    rw [upd_upd]
    exact .row b n cap pre cells' sp hb (by omega) hc
theorem wds_set9 (l : List (BitVec 32)) (k : Nat) (v : BitVec 32) : (wds l).set k (AV.int .u32 (v.toNat : Int)) = wds (l.set k v) := by
  simp [wds, List.map_set]
def wordsV (b : List (BitVec 8)) (o : Option (List (BitVec 32) × List (BitVec 8))) : AV := match o with
  | some (l, r) => .tup [.ro (wds l) l.length, .int .i64 ((b.length - r.length : Nat) : Int)]
  | none => .tup [.nils, .int .i64 (-1)]
theorem drop4 (b : List (BitVec 8)) (a : Nat) (h : a + 4 ≤ b.length) : ∃ c0 c1 c2 c3, b.drop a = c0 :: c1 :: c2 :: c3 :: b.drop (a + 4) ∧ (b.drop a).take 4 = [c0, c1, c2, c3] := by
  refine ⟨b[a], b[a + 1], b[a + 2], b[a + 3], ?_, ?_⟩
  · rw [List.drop_eq_getElem_cons (by omega), List.drop_eq_getElem_cons (by omega), List.drop_eq_getElem_cons (by omega), List.drop_eq_getElem_cons (by omega)]
  · rw [List.drop_eq_getElem_cons (by omega), List.drop_eq_getElem_cons (by omega), List.drop_eq_getElem_cons (by omega), List.drop_eq_getElem_cons (by omega)]
    rfl
theorem rwords_spec (b : List (BitVec 8)) (a n : Nat) (was : List (BitVec 32)) (mask : BitVec 64) (hb : b.length ≤ 140737488355328) (ha : a ≤ b.length) (hn : was.length = n) (h32 : n ≤ 32) :
    Spec Try.prog G 96 [byt b, .int .i64 a, .ro (wds was) n, .int .u64 mask.toNat] h (Is (wordsV b (rdW was mask.toNat (b.drop a))) h) := by
  subst hn
  refine Spec.is C96ok rfl ?_
  simp only [push_cast, simprocAttr]
  intro c hc
  have o0 : Own 1 h (.sl c 0 0 0) [] 0 (upd h c ⟨[], 0⟩) := .row c 0 0 [] [] 0 hc rfl (by omega)
  refine o0.app (m := was.length) (by simp [wds]) (by omega) (by omega) fun v1 h1 o1 => ?_
  rw [List.nil_append, Nat.zero_add] at o1
  simp only [push_cast, simprocAttr]
  refine lpc.rel [0, 1, 2, 3, 10, 11] (fun m ρ h' => ∃ (k pos : Nat) (l : List (BitVec 32)) (v : AV), m = was.length - k ∧ k ≤ was.length ∧ pos ≤ b.length ∧ l.length = was.length ∧ l.drop k = was.drop k ∧ Own 1 h v (wds l) was.length h' ∧
    rdW was mask.toNat (b.drop a) = (rdW (was.drop k) (mask.toNat / 2 ^ k) (b.drop pos)).map (fun x => (l.take k ++ x.1, x.2)) ∧
    ρ = [(0, byt b), (1, .int .i64 pos), (2, .ro (wds was) was.length), (3, .int .u64 mask.toNat), (10, v), (11, .int .i64 k)]) ⟨_, 0, a, was, v1, rfl, by omega, ha, rfl, rfl, o1, by simp, rfl⟩ ?_
  rintro m _ h2 ⟨k, pos, l, v, rfl, hk, hpos, hl, hdr, ho, hrd, rfl⟩
  simp only [push_cast, simprocAttr]
  refine ⟨fun hk2 => ?_, fun hk2 => ?_⟩
  · refine (Power_spec k (by omega)).to ?_
    have hk3 : k < l.length := by omega
    have hd1 : was.drop k = was.getD k 0#32 :: was.drop (k + 1) := by
      rw [List.drop_eq_getElem_cons hk2]; simp [hk2]
    have hd2 : l.drop k = l.getD k 0#32 :: l.drop (k + 1) := by
      rw [List.drop_eq_getElem_cons hk3]; simp [hk3]
    rw [hd1, hd2, List.cons.injEq] at hdr
    have hdiv : mask.toNat / 2 ^ (k + 1) = mask.toNat / 2 ^ k / 2 := by rw [Nat.pow_succ, Nat.div_div_eq_div_mul]
    have hbit : ((mask >>> k).toNat : Int).tmod 2 = ((mask.toNat / 2 ^ k % 2 : Nat) : Int) := by
      rw [BitVec.toNat_ushiftRight, Nat.shiftRight_eq_div_pow]; rfl
    rw [hd1] at hrd
    simp (disch := omega) only [push_cast, simprocAttr, wrap_i64, toNat_ofInt64, Nat.min_eq_left, Int.toNat_of_nonneg]
    rw [hbit]
    refine ⟨fun hm => ?_, fun hm => ⟨fun h4 => ?_, fun h4 => ?_⟩⟩
    · have hm : mask.toNat / 2 ^ k % 2 = 0 := by omega
      refine ⟨_, _, by omega, .refl _, k + 1, pos, l, v, rfl, by omega, hpos, hl, hdr.2, ho, ?_, rfl⟩
      rw [hrd, rdW_0 hm, hdiv, Option.map_map]
      congr 1
      funext x
      simp only [Function.comp, take_snoc l k hk3, List.append_assoc, List.singleton_append, hdr.1]
    · have hm : ¬ mask.toNat / 2 ^ k % 2 = 0 := by omega
      have : rdW was mask.toNat (b.drop a) = none := by
        rw [hrd, rdW_n hm (by rw [List.length_drop]; omega)]; rfl
      exact ⟨by rw [this]; rfl, ho.sub⟩
    · have hm : ¬ mask.toNat / 2 ^ k % 2 = 0 := by omega
      obtain ⟨c0, c1, c2, c3, e1, e2⟩ := drop4 b pos (by omega)
      have e3 : ((pos : Int) + 4).toNat - pos = 4 := by omega
      have e4 : List.take 4 (List.drop pos (bys b)) = bys [c0, c1, c2, c3] := by rw [bys_drop, bys_take, e2]
      rw [e3, e4]
      refine ⟨by omega, (rNumber_spec [c0, c1, c2, c3] (by simp)).to ?_⟩
      obtain ⟨bb, pre, cap, sp, rfl, hbb, hnew⟩ := ho.lie (by omega)
      generalize hX : BitVec.ofNat 32 (leN [c0, c1, c2, c3]) = X
      have hset : (pre ++ wds l).set (pre.length + k) (AV.int .u32 (X.toNat : Int)) = pre ++ wds (l.set k X) := by
        rw [List.set_append_right _ _ (by omega), Nat.add_sub_cancel_left, wds_set9]
      have hget : (pre ++ wds (l.set k X))[pre.length + k]? = some (AV.int .u32 (X.toNat : Int)) := by
        rw [List.getElem?_append_right (by omega), Nat.add_sub_cancel_left, wds_get, if_pos (by rw [List.length_set]; exact hk3)]
        simp [hk3]
      have ho2 := hnew (wds (l.set k X)) (by simp [wds])
      simp (disch := omega) only [push_cast, simprocAttr, wrap_i64, toNat_ofInt64, Nat.min_eq_left, Int.toNat_of_nonneg, hbb, hset, hget, hk2]
      rw [e1, ← List.drop_drop] at hrd
      refine ⟨by rw [List.length_append, wds_len]; omega, fun hx => ?_, fun hx => ?_⟩
      · have : rdW was mask.toNat (b.drop a) = none := by rw [hrd, rdW_1 hm, hX, if_pos hx]; rfl
        exact ⟨by rw [this]; rfl, ho2.sub⟩
      · refine ⟨_, _, by omega, .refl _, k + 1, pos + 4, l.set k X, _, rfl, by omega, by omega, by rw [List.length_set]; exact hl, by rw [List.drop_set_of_lt (by omega), hdr.2], ho2, ?_, rfl⟩
        rw [hrd, rdW_1 hm, hX, if_neg hx, hdiv, Option.map_map, List.drop_drop]
        congr 1
        funext x
        simp only [Function.comp]
        rw [List.take_add_one, List.take_set_of_le (by omega), List.getElem?_set_self hk3]
        simp
  · have hk1 : k = was.length := by omega
    subst hk1
    have hr : rdW was mask.toNat (b.drop a) = some (l, b.drop pos) := by
      rw [hrd, List.drop_length, ← hl, List.take_length]; simp [rdW]
    refine wkQ.own ho ?_
    have e : b.length - (b.drop pos).length = pos := by rw [List.length_drop]; omega
    simp only [push_cast, simprocAttr, hr, wordsV, e, hl]
theorem rdW_suf : ∀ (was : List (BitVec 32)) (m : Nat) (bs : List (BitVec 8)) (x : List (BitVec 32) × List (BitVec 8)), rdW was m bs = some x → x.1.length = was.length ∧ ∃ j, j ≤ bs.length ∧ x.2 = bs.drop j := by
  intro was
  induction was with
  | nil => intro m bs x h; simp [rdW] at h; subst h; exact ⟨rfl, 0, by omega, rfl⟩
  | cons w ws ih =>
    intro m bs x h
    by_cases h2 : m % 2 = 0
    · rw [rdW_0 h2] at h
      obtain ⟨y, hy, rfl⟩ := Option.map_eq_some_iff.1 h
      obtain ⟨i1, j, i2, i3⟩ := ih _ _ _ hy
      exact ⟨by simp [i1], j, i2, i3⟩
    · by_cases h4 : bs.length < 4
      · rw [rdW_n h2 h4] at h; cases h
      · match bs, h4 with
        | a :: b :: c :: d :: r, _ =>
          rw [rdW_1 h2] at h
          split at h
          · cases h
          · obtain ⟨y, hy, rfl⟩ := Option.map_eq_some_iff.1 h
            obtain ⟨i1, j, i2, i3⟩ := ih _ _ _ hy
            exact ⟨by simp [i1], j + 4, by simp; omega, by rw [i3]; rfl⟩
        | [], h4 => simp at h4
        | [_], h4 => simp at h4
        | [_, _], h4 => simp at h4
        | [_, _, _], h4 => simp at h4
/-- An event at a place, and the place behind it. -/
def evtV (b : List (BitVec 8)) (v : AV) (o : Option (Evt × List (BitVec 8))) : Prop := match o with
  | some (e, r) => v = .tup [.agg e.cells, .int .i64 ((b.length - r.length : Nat) : Int)]
  | none => ∃ e : Evt, v = .tup [.agg e.cells, .int .i64 (-1)]
theorem pos_of {b r : List (BitVec 8)} {a : Nat} (h : ∃ j, j ≤ (b.drop a).length ∧ r = (b.drop a).drop j) (ha : a ≤ b.length) : b.drop (b.length - r.length) = r ∧ b.length - r.length ≤ b.length ∧ a ≤ b.length - r.length := by
  obtain ⟨j, h1, h2⟩ := h
  obtain ⟨e1, e2⟩ := suf_pos h2 h1 ha
  rw [List.length_drop] at h1
  exact ⟨e1, by omega, by omega⟩
theorem Evt.s20 (e : Evt) : e.cells.set 2 (.int .u32 0) = Evt.cells { e with value := 0 } := rfl
theorem sub_new {h g : Heap} {b : Nat} {X : Blk} (hb : h b = none) (hs : Sub h g) : Sub h (upd g b X) := by
  intro d y hd
  have : ¬ d = b := fun e => by rw [e, hb] at hd; cases hd
  rw [upd_at, if_neg this]
  exact hs d y hd
theorem Evt.setR (e : Evt) (k : Nat) (hk : k < 32) (v : BitVec 32) : e.cells.set (6 + k) (.int .u32 (v.toNat : Int)) = ({ e with regs := e.regs.set k v hk } : Evt).cells := by
  unfold Evt.cells
  rw [List.set_append_right _ _ (by simp)]
  have : 6 + k - [AV.int .i64 e.kind, .int .u64 e.tick.toNat, .int .u32 e.value.toNat, .int .u32 e.cause.toNat, .int .u32 e.epc.toNat, .int .u32 e.tval.toNat].length = k := by simp
  rw [this, List.set_append_left _ _ (by rw [wds_len, Vector.length_toList]; exact hk), wds_set9, Vector.toList_set]
theorem Evt.setK (e : Evt) (l : List (BitVec 32)) : e.cells.take 38 ++ [AV.int .u32 ((l.getD 0 0#32).toNat : Int), .int .u32 ((l.getD 1 0#32).toNat : Int), .int .u32 ((l.getD 2 0#32).toNat : Int), .int .u32 ((l.getD 3 0#32).toNat : Int), .int .u32 ((l.getD 4 0#32).toNat : Int), .int .u32 ((l.getD 5 0#32).toNat : Int), .int .u32 ((l.getD 6 0#32).toNat : Int)] ++ e.cells.drop 45 = ({ e with csrs := Kp.of l } : Evt).cells := by
  have := Evt.s_csrs e (Kp.of l)
  rw [splice_ne (by rw [wds_len]; simp [Kp.l]), wds_len] at this
  exact this
theorem rtrap_spec (b : List (BitVec 8)) (a : Nat) (e last : Evt) (hb : b.length ≤ 140737488355328) (ha : a ≤ b.length) :
    Spec Try.prog G 74 [byt b, .int .i64 a, .agg e.cells, .agg last.cells] h (fun r h' => h = h' ∧ evtV b r (rdT e ⟨0, last.regs, last.csrs⟩ (b.drop a))) := by
  refine Spec.drop (Spec.mono (Q := fun r h' => Sub h h' ∧ evtV b r (rdT e ⟨0, last.regs, last.csrs⟩ (b.drop a))) ?_ fun r h' hq => ⟨h, hq.1, rfl, hq.2⟩)
  refine Spec.walk C74ok rfl ?_
  simp only [push_cast, simprocAttr]
  intro b6 hb6 b8 hb8
  have hb8' := upd_none hb8
  refine (rnumber_spec b a 4294967295#64 hb ha).to ?_
  have f1 : ¬ b8 = b6 := hb8'.1
  have f2 : ¬ b6 = b8 := fun h => f1 h.symm
  have hsub : ∀ X Y, Sub h (upd (upd h b6 X) b8 Y) := fun X Y => ((Sub.refl h).alloc hb6).trans ((Sub.refl _).alloc (by
    have := hb8'.2
    rw [upd_ne hb8'.1]; exact this))
  have m1 : (4294967295#64).toNat = 4294967295 := rfl
  have m2 : ∀ x : Nat, x ≤ 4294967295 → (x : Int) = ((BitVec.ofNat 64 x).toNat : Int) := fun x hx => by rw [BitVec.toNat_ofNat, Nat.mod_eq_of_lt (by omega)]
  have fail : rdT e ⟨0, last.regs, last.csrs⟩ (b.drop a) = none → evtV b (.tup [.agg e.cells, .int .i64 (-1)]) (rdT e ⟨0, last.regs, last.csrs⟩ (b.drop a)) := fun hn => by rw [hn]; exact ⟨e, rfl⟩
  have neg : ∀ n : Nat, ((n : Int) < 0) = False := fun n => by simp
  generalize hR : rdT e ⟨0, last.regs, last.csrs⟩ (b.drop a) = R at fail ⊢
  unfold rdT at hR
  simp only [Option.bind_eq_bind] at hR
  rw [m1]
  cases e1 : rdN 4294967295 (b.drop a) 0 0 with
  | none =>
    simp only [push_cast, simprocAttr, numV, upd_at, f1, f2]
    rw [e1] at hR
    exact ⟨hsub _ _, fail hR.symm⟩
  | some x1 =>
    obtain ⟨j1, _, j12, j13⟩ := rdN_suf _ _ _ _ e1
    obtain ⟨p1, p2, _⟩ := pos_of ⟨j1, j12, j13⟩ ha
    rw [e1] at hR
    simp only [Option.bind_some] at hR
    simp only [push_cast, simprocAttr, numV]
    refine (rnumber_spec b (b.length - x1.2.length) 4294967295#64 hb p2).to ?_
    rw [m1, p1]
    cases e2 : rdN 4294967295 x1.2 0 0 with
    | none =>
      simp only [push_cast, simprocAttr, numV, upd_at, f1, f2]
      rw [e2] at hR
      exact ⟨hsub _ _, fail hR.symm⟩
    | some x2 =>
      obtain ⟨j1, _, j12, j13⟩ := rdN_suf _ _ _ _ e2
      rw [← p1] at j12 j13
      obtain ⟨q1, q2, _⟩ := pos_of ⟨j1, j12, j13⟩ p2
      rw [e2] at hR
      simp only [Option.bind_some] at hR
      simp only [push_cast, simprocAttr, numV]
      refine (rnumber_spec b (b.length - x2.2.length) 4294967295#64 hb q2).to ?_
      rw [m1, q1]
      cases e3 : rdN 4294967295 x2.2 0 0 with
      | none =>
        simp only [push_cast, simprocAttr, numV, upd_at, f1, f2]
        rw [e3] at hR
        exact ⟨hsub _ _, fail hR.symm⟩
      | some x3 =>
        obtain ⟨j1, _, j12, j13⟩ := rdN_suf _ _ _ _ e3
        rw [← q1] at j12 j13
        obtain ⟨r1, r2, _⟩ := pos_of ⟨j1, j12, j13⟩ q2
        rw [e3] at hR
        simp only [Option.bind_some] at hR
        simp only [push_cast, simprocAttr, numV]
        refine (rnumber_spec b (b.length - x3.2.length) 4294967295#64 hb r2).to ?_
        rw [m1, r1]
        cases e4 : rdN 4294967295 x3.2 0 0 with
        | none =>
          simp only [push_cast, simprocAttr, numV, upd_at, f1, f2]
          rw [e4] at hR
          exact ⟨hsub _ _, fail hR.symm⟩
        | some x4 =>
          obtain ⟨j1, _, j12, j13⟩ := rdN_suf _ _ _ _ e4
          rw [← r1] at j12 j13
          obtain ⟨s1, s2, _⟩ := pos_of ⟨j1, j12, j13⟩ r2
          have hx4 := (rdN_le _ _ _ _ e4 (by omega)).1
          rw [e4] at hR
          simp only [Option.bind_some] at hR
          simp only [push_cast, simprocAttr, numV]
          rw [m2 x4.1 hx4]
          refine (rwords_spec b (b.length - x4.2.length) 32 last.regs.toList (BitVec.ofNat 64 x4.1) hb s2 (by simp) (by omega)).to ?_
          have hx4' : (BitVec.ofNat 64 x4.1).toNat = x4.1 := by have := m2 x4.1 hx4; omega
          rw [s1, hx4']
          cases e5 : rdW last.regs.toList x4.1 x4.2 with
          | none =>
            simp only [push_cast, simprocAttr, wordsV, upd_at, f1, f2]
            rw [e5] at hR
            exact ⟨hsub _ _, fail hR.symm⟩
          | some x5 =>
            obtain ⟨l5, j1, j12, j13⟩ := rdW_suf _ _ _ _ e5
            rw [← s1] at j12 j13
            obtain ⟨t1, t2, _⟩ := pos_of ⟨j1, j12, j13⟩ s2
            rw [e5] at hR
            simp only [Option.bind_some] at hR
            rw [Vector.length_toList] at l5
            simp only [push_cast, simprocAttr, wordsV, l5, upd_at, f1, f2]
            generalize hp : b.length - x5.2.length = p at *
            cases h5 : x5.2 with
            | nil =>
              have hpl : p = b.length := by
                have := congrArg List.length t1
                rw [h5, List.length_drop, List.length_nil] at this
                omega
              rw [h5] at hR
              simp only at hR
              refine ⟨fun hc => ?_, fun _ => ⟨hsub _ _, fail hR.symm⟩⟩
              rw [decide_eq_true (by omega)] at hc
              cases hc
            | cons c b6' =>
              have hpl : p < b.length := by
                have := congrArg List.length t1
                rw [h5, List.length_drop, List.length_cons] at this
                omega
              rw [h5, List.drop_eq_getElem_cons hpl, List.cons.injEq] at t1
              have hc : b.getD p 0#8 = c := by simp [hpl, t1.1]
              rw [h5] at hR
              simp only at hR
              refine ⟨fun _ => ⟨hpl, ?_⟩, fun hc => by rw [decide_eq_false (by omega)] at hc; cases hc⟩
              simp only [push_cast, simprocAttr, hpl, hc, upd_at, f1, f2]
              refine ⟨fun h127 => ⟨hsub _ _, fail (by rw [← hR, if_pos (by omega)])⟩, fun h127 => ?_⟩
              rw [if_neg (by omega)] at hR
              refine (rKept_spec last.csrs).to ?_
              simp (disch := omega) only [push_cast, simprocAttr, wrap_i64, toNat_ofInt64, Nat.min_eq_left, Int.toNat_of_nonneg, hpl, hc, sw64_8]
              have e64 : (c.toNat : Int) = ((BitVec.setWidth 64 c).toNat : Int) := by rw [sw64_8]
              have e1 : (p : Int) + 1 = ((p + 1 : Nat) : Int) := rfl
              rw [e64, e1]
              refine (rwords_spec b (p + 1) 7 last.csrs.l (BitVec.setWidth 64 c) hb (by omega) rfl (by omega)).to ?_
              rw [sw64_8, t1.2]
              cases e6 : rdW last.csrs.l c.toNat b6' with
              | none =>
                simp only [push_cast, simprocAttr, wordsV, upd_at, f1, f2]
                rw [e6] at hR
                exact ⟨hsub _ _, fail hR.symm⟩
              | some x6 =>
                obtain ⟨l6, j1, j12, j13⟩ := rdW_suf _ _ _ _ e6
                rw [e6] at hR
                simp only [Option.bind_some] at hR
                rw [Kp.l_len] at l6
                simp only [push_cast, simprocAttr, wordsV, l6, upd_at, f1, f2]
                rw [zero_evt]
                have hsub2 : ∀ X Y Z, Sub h (upd (upd (upd h b6 X) b8 Y) b6 Z) := fun X Y Z => by
                  rw [upd_comm f2, upd_upd, upd_comm f1]
                  exact hsub _ _
                refine lpc.rel [6, 8, 19, 21, 22, 23] (fun m ρ h' => ∃ (k : Nat) (rg : Rg), m = 32 - k ∧ k ≤ 32 ∧ rg.toList.take k = x5.1.take k ∧
                  upd (upd (upd h b6 ⟨e.cells, 0⟩) b8 ⟨Evt.zero.cells, 0⟩) b6 ⟨Evt.cells { e with cause := BitVec.ofInt 32 x1.1, epc := BitVec.ofInt 32 x2.1, tval := BitVec.ofInt 32 x3.1, regs := rg }, 0⟩ = h' ∧
                  ρ = [(6, .ptr b6 0), (8, .ptr b8 0), (19, .ro (wds x5.1) 32), (21, .ro (wds x6.1) 7), (22, .int .i64 ((b.length - x6.2.length : Nat) : Int)), (23, .int .i64 (k : Int))]) ⟨_, 0, e.regs, rfl, by omega, rfl, rfl, rfl⟩ ?_
                rintro m _ _ ⟨k, rg, rfl, hk, hrg, rfl, rfl⟩
                simp only [push_cast, simprocAttr, upd_at, f1, f2]
                refine ⟨fun hk2 => ?_, fun hk2 => ?_⟩
                · have hk3 : k < 32 := by omega
                  refine ⟨hk2, by omega, hk2, by omega, ?_⟩
                  have e1 := Evt.setR { e with cause := BitVec.ofInt 32 x1.1, epc := BitVec.ofInt 32 x2.1, tval := BitVec.ofInt 32 x3.1, regs := rg } k hk3 (x5.1.getD k 0#32)
                  simp only at e1
                  rw [e1]
                  simp (disch := omega) only [push_cast, simprocAttr, wrap_i64, toNat_ofInt64, Nat.min_eq_left, Int.toNat_of_nonneg]
                  refine ⟨_, _, by omega, .refl _, k + 1, rg.set k (x5.1.getD k 0#32) hk3, rfl, by omega, ?_, rfl, rfl⟩
                  rw [Vector.toList_set, List.take_add_one, List.take_set_of_le (by omega), hrg, List.getElem?_set_self (by simp; omega), List.take_add_one]
                  simp [l5, hk3]
                · obtain rfl : k = 32 := by omega
                  refine ⟨by omega, by omega, by omega, by omega, by omega, by omega, by omega, ?_⟩
                  have e1 := Evt.setK { e with cause := BitVec.ofInt 32 x1.1, epc := BitVec.ofInt 32 x2.1, tval := BitVec.ofInt 32 x3.1, regs := rg } x6.1
                  simp only at e1
                  rw [e1]
                  simp only [push_cast, simprocAttr, upd_at, f1, f2]
                  rw [List.take_of_length_le (by simp), List.take_of_length_le (by omega)] at hrg
                  have e2 : rg = Rg.of x5.1 := by rw [← hrg, Rg.of_toList]
                  rw [← hR, e2]
                  simp only [evtV, BitVec.ofInt_natCast]
                  refine ⟨sub_new hb8'.2 (hsub2 _ _ _), trivial⟩
theorem revent_spec (b : List (BitVec 8)) (a : Nat) (t : BitVec 64) (last : Evt) (hb : b.length ≤ 140737488355328) (ha : a < b.length) :
    Spec Try.prog G 54 [byt b, .int .i64 a, .int .u64 t.toNat, .agg last.cells] h (fun r h' => h = h' ∧ evtV b r (rdE ⟨t, last.regs, last.csrs⟩ (b.drop a))) := by
  refine Spec.drop (Spec.mono (Q := fun r h' => Sub h h' ∧ evtV b r (rdE ⟨t, last.regs, last.csrs⟩ (b.drop a))) ?_ fun r h' hq => ⟨h, hq.1, rfl, hq.2⟩)
  refine Spec.walk C54ok rfl ?_
  simp only [push_cast, simprocAttr]
  intro b8 hb8
  simp (disch := omega) only [push_cast, simprocAttr, wrap_i64, toNat_ofInt64, Nat.min_eq_left, Int.toNat_of_nonneg]
  generalize hc : b.getD a 0#8 = c
  have hdr : b.drop a = c :: b.drop (a + 1) := by
    rw [List.drop_eq_getElem_cons ha, ← hc]; simp [ha]
  rw [hdr]
  refine ⟨ha, ha, fun b10 hb10 => ?_⟩
  have hb10' := upd_none hb10
  have f1 : ¬ b10 = b8 := hb10'.1
  have f2 : ¬ b8 = b10 := fun h => f1 h.symm
  rw [zero_evt] at *
  rw [kd_evt] at *
  have e1 : (a : Int) + 1 = ((a + 1 : Nat) : Int) := rfl
  rw [e1]
  refine (rnumber_spec b (a + 1) (18446744073709551615#64 - t) hb (by omega)).to ?_
  have m1 : (18446744073709551615#64 - t).toNat = 18446744073709551615 - t.toNat := by
    rw [BitVec.toNat_sub_of_le (by show t.toNat ≤ _; have := t.isLt; simp; omega)]
    rfl
  rw [m1]
  have fail : ∀ e : Evt, rdE ⟨t, last.regs, last.csrs⟩ (c :: b.drop (a + 1)) = none → evtV b (.tup [.agg e.cells, .int .i64 (-1)]) (rdE ⟨t, last.regs, last.csrs⟩ (c :: b.drop (a + 1))) := fun e hn => by rw [hn]; exact ⟨e, rfl⟩
  generalize hR : rdE ⟨t, last.regs, last.csrs⟩ (c :: b.drop (a + 1)) = R at fail ⊢
  unfold rdE at hR
  simp only [Option.bind_eq_bind] at hR
  have hsub : Sub h (upd (upd h b8 ⟨Evt.zero.cells, 0⟩) b10 ⟨Evt.cells ⟨(c.toNat : Int), 0, 0, 0, 0, 0, Rg.zero, Kp.zero⟩, 0⟩) := sub_new hb10'.2 (sub_new hb8 (.refl _))
  cases e1 : rdN (18446744073709551615 - t.toNat) (b.drop (a + 1)) 0 0 with
  | none =>
    simp only [push_cast, simprocAttr, numV, upd_at, f1, f2]
    rw [e1] at hR
    exact ⟨sub_new hb8 hsub, fail _ hR.symm⟩
  | some x1 =>
    obtain ⟨j1, _, j12, j13⟩ := rdN_suf _ _ _ _ e1
    obtain ⟨p1, p2, _⟩ := pos_of ⟨j1, j12, j13⟩ (by omega)
    have hx1 := (rdN_le _ _ _ _ e1 (by omega)).1
    rw [e1] at hR
    simp only [Option.bind_some] at hR
    generalize hp : b.length - x1.2.length = p at *
    have m2 : (x1.1 : Int) = ((BitVec.ofNat 64 x1.1).toNat : Int) := by rw [BitVec.toNat_ofNat, Nat.mod_eq_of_lt (by omega)]
    simp only [push_cast, simprocAttr, numV, hp, m2, upd_at, f1, f2]
    have et : t + BitVec.ofNat 64 x1.1 = BitVec.ofNat 64 (t.toNat + x1.1) := by
      apply BitVec.eq_of_toNat_eq
      rw [BitVec.toNat_add, BitVec.toNat_ofNat, BitVec.toNat_ofNat]
      simp
    rw [et]
    have hlen := congrArg List.length p1
    rw [List.length_drop] at hlen
    have hs2 : ∀ X Y Z, Sub h (upd (upd (upd h b8 X) b10 Y) b8 Z) := fun X Y Z => sub_new hb8 (sub_new hb10'.2 (sub_new hb8 (.refl _)))
    refine ⟨fun h1 => ⟨fun hpl => ?_, fun hpl => ?_⟩, fun h1 => ⟨fun h2 => ?_, fun h2 => ⟨fun h3 => ?_, fun h3 => ?_⟩⟩⟩
    · have : x1.2 = [] := List.eq_nil_of_length_eq_zero (by omega)
      rw [this, if_pos (by omega)] at hR
      exact ⟨hs2 _ _ _, fail _ hR.symm⟩
    · have hpl2 : p < b.length := by omega
      have hd : x1.2 = b.getD p 0#8 :: b.drop (p + 1) := by
        rw [← p1, List.drop_eq_getElem_cons hpl2]; simp [hpl2]
      rw [hd, if_pos (by omega)] at hR
      simp (disch := omega) only [push_cast, simprocAttr, wrap_i64, toNat_ofInt64, Nat.min_eq_left, Int.toNat_of_nonneg]
      refine ⟨hpl2, hpl2, hs2 _ _ _, ?_⟩
      rw [← hR]
      have e5 : b.length - (b.drop (p + 1)).length = p + 1 := by rw [List.length_drop]; omega
      simp only [evtV, e5]
      exact rfl
    · rw [if_neg (by omega), if_neg (by omega), if_pos (by omega)] at hR
      refine (rtrap_spec b p _ last hb p2).mono ?_
      have hR2 : rdT ⟨(c.toNat : Int), BitVec.ofNat 64 (t.toNat + x1.1), 0#32, 0#32, 0#32, 0#32, Rg.zero, Kp.zero⟩ ⟨0, last.regs, last.csrs⟩ x1.2 = R := hR
      rw [p1, hR2]
      rintro r _ ⟨rfl, hv⟩
      cases R with
      | none =>
        obtain ⟨e, rfl⟩ := hv
        simp only [push_cast, simprocAttr, upd_at, f1, f2]
        exact ⟨hs2 _ _ _, e, rfl⟩
      | some y =>
        simp only [evtV] at hv
        subst hv
        simp only [push_cast, simprocAttr, upd_at, f1, f2]
        exact ⟨hs2 _ _ _, rfl⟩
    · rw [if_neg (by omega), if_pos (by omega)] at hR
      have e7 : AV.int .u64 4294967295 = .int .u64 ((4294967295#64).toNat : Int) := rfl
      rw [e7]
      refine (rnumber_spec b p 4294967295#64 hb p2).to ?_
      have e8 : (4294967295#64).toNat = 4294967295 := rfl
      rw [p1, e8]
      cases e2 : rdN 4294967295 x1.2 0 0 with
      | none =>
        rw [e2] at hR
        simp only [push_cast, simprocAttr, numV, upd_at, f1, f2, Evt.s20]
        exact ⟨hs2 _ _ _, fail _ hR.symm⟩
      | some x2 =>
        have hx2 := (rdN_le _ _ _ _ e2 (by omega)).1
        rw [e2] at hR
        simp only [push_cast, simprocAttr, numV, upd_at, f1, f2, BitVec.ofInt_natCast]
        refine ⟨hs2 _ _ _, ?_⟩
        rw [← hR]
        exact rfl
    · rw [if_neg (by omega), if_neg (by omega), if_neg (by omega)] at hR
      exact ⟨hs2 _ _ _, fail _ hR.symm⟩
end Go.Ab
