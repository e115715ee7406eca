/- Contracts: the reader of blocks. -/
import Derived.Test.YtecfchkmmnphdaaB11
import Derived.Test.YtecfchkmmnphdaaB12
set_option linter.unusedSimpArgs false
set_option linter.unusedVariables false
set_option maxRecDepth 10000
namespace Go.Ab
open Go.Proofs
variable {G : Glo} {h : Heap}
def renOK (to : List Int) (o : IOp) : Prop := (o.code = 3 ∨ o.code = 5 ∨ o.code = 6 → (0 ≤ o.a ∧ o.a < to.length) ∧ 0 ≤ o.b ∧ o.b < to.length) ∧ (o.code = 4 → 0 ≤ o.a ∧ o.a < to.length)
@[push_cast] theorem ints_getP (pre : List AV) (l : List Int) (i : Nat) : (pre ++ l.map (AV.int .i64))[pre.length + i]? = if i < l.length then some (AV.int .i64 (l.getD i 0)) else none := by
  rw [List.getElem?_append_right (by omega), Nat.add_sub_cancel_left, ints_get]
@[push_cast] theorem partOf_pre (pre c : List AV) (i n : Nat) : partOf (pre ++ c) (pre.length + i) (some n) = partOf c i (some n) := by
  simp only [partOf_some, List.length_append]
  by_cases h : i + n ≤ c.length
  · rw [if_pos h, if_pos (by omega), ← List.drop_drop, List.drop_left]
  · rw [if_neg h, if_neg (by omega)]
theorem names_spec {b5 : Nat} {p vo vx last vt st : AV} {h1 : Heap} {to : List Int} (hb : h b5 = some ⟨[p, vo, vx, last, vt, st], 0⟩) (ho : Own 1 h1 vt (to.map (.int .i64)) to.length h) (o : IOp) (hR : renOK to o) :
    Spec Try.prog G 90 [.ptr b5 0, .agg o.cells] h (Is (.agg (ren to o).cells) h) := by
  obtain ⟨hR1, hR2⟩ := hR
  refine Spec.is C90ok rfl ?_
  simp only [push_cast, simprocAttr]
  intro b3 hb3 b4 hb4
  have n34 := upd_none hb4
  have f1 : ¬ b4 = b3 := n34.1
  have f2 : ¬ b3 = b4 := fun e => f1 e.symm
  have f3 : ¬ b5 = b3 := fun e => by rw [← e, hb] at hb3; cases hb3
  have f4 : ¬ b5 = b4 := fun e => by rw [← e, upd_ne f3, hb] at hb4; cases hb4
  have hsub : ∀ X Y Z W, Sub h (Ab.upd (Ab.upd (Ab.upd (Ab.upd h b3 X) b4 Y) b3 Z) b4 W) := fun X Y Z W => sub_upd n34.2 (sub_upd hb3 (sub_upd n34.2 (sub_upd hb3 (.refl _))))
  have hsub2 : ∀ X Y W, Sub h (Ab.upd (Ab.upd (Ab.upd h b3 X) b4 Y) b4 W) := fun X Y W => sub_upd n34.2 (sub_upd n34.2 (sub_upd hb3 (.refl _)))
  unfold ren
  by_cases g3 : o.code = 3 ∨ o.code = 5 ∨ o.code = 6
  · obtain ⟨⟨q1, q2⟩, q3, q4⟩ := hR1 g3
    obtain ⟨bt, pre, cap, sp, rfl, e2, e3, e4⟩ := own_lie ho (by omega)
    have f5 : ¬ bt = b3 := fun e => by rw [← e, e2] at hb3; cases hb3
    have f6 : ¬ bt = b4 := fun e => by rw [← e, upd_ne f5, e2] at hb4; cases hb4
    have q5 : o.a.toNat < to.length := by omega
    have q6 : o.b.toNat < to.length := by omega
    rw [if_pos g3]
    rcases g3 with g | g | g
    · simp (disch := omega) only [push_cast, simprocAttr, wrap_i64, toNat_ofInt64, Nat.min_eq_left, Int.toNat_of_nonneg, upd_at, f1, f2, f3, f4, f5, f6, hb, e2, q1, q2, q3, q4, q5, q6, g]
      exact hsub _ _ _ _
    · simp (disch := omega) only [push_cast, simprocAttr, wrap_i64, toNat_ofInt64, Nat.min_eq_left, Int.toNat_of_nonneg, upd_at, f1, f2, f3, f4, f5, f6, hb, e2, q1, q2, q3, q4, q5, q6, g]
      exact hsub _ _ _ _
    · simp (disch := omega) only [push_cast, simprocAttr, wrap_i64, toNat_ofInt64, Nat.min_eq_left, Int.toNat_of_nonneg, upd_at, f1, f2, f3, f4, f5, f6, hb, e2, q1, q2, q3, q4, q5, q6, g]
      exact hsub _ _ _ _
  · rw [if_neg g3]
    by_cases g4 : o.code = 4
    · obtain ⟨q1, q2⟩ := hR2 g4
      obtain ⟨bt, pre, cap, sp, rfl, e2, e3, e4⟩ := own_lie ho (by omega)
      have f5 : ¬ bt = b3 := fun e => by rw [← e, e2] at hb3; cases hb3
      have f6 : ¬ bt = b4 := fun e => by rw [← e, upd_ne f5, e2] at hb4; cases hb4
      have q5 : o.a.toNat < to.length := by omega
      rw [if_pos g4]
      simp (disch := omega) only [push_cast, simprocAttr, wrap_i64, toNat_ofInt64, Nat.min_eq_left, Int.toNat_of_nonneg, upd_at, f1, f2, f3, f4, f5, f6, hb, e2, q1, q2, q5, g4]
      exact hsub _ _ _ _
    · rw [if_neg g4]
      have g5 : ¬ o.code = 3 := by omega
      have g6 : ¬ o.code = 5 := by omega
      have g7 : ¬ o.code = 6 := by omega
      simp (disch := omega) only [push_cast, simprocAttr, wrap_i64, toNat_ofInt64, Nat.min_eq_left, Int.toNat_of_nonneg, upd_at, f1, f2, f3, f4, hb, g4, g5, g6, g7]
      exact sub_upd n34.2 (sub_upd hb3 (.refl _))
theorem known_spec {b5 : Nat} {p vo vx last vt : AV} {g : Heap} {l : List IOp} {stored : Int} (hb : h b5 = some ⟨[p, vo, vx, last, vt, .int .i64 stored], 0⟩) (ho : Own 6 g vo (l.flatMap IOp.cells) l.length h) (hst : stored < l.length) (o : IOp) :
    Spec Try.prog G 91 [.ptr b5 0, .agg o.cells] h (Is (.int .i64 (knownN l stored o)) h) := by
  have hK : knownN l stored o = if o.code ≠ 4 ∨ o.imm.toNat ≠ 13 ∨ stored < 0 then -1 else
    if (l.getD stored.toNat IOp.zero).imm.toNat ≠ 18 ∨ (l.getD stored.toNat IOp.zero).a ≠ o.a then -1 else (l.getD stored.toNat IOp.zero).b := rfl
  generalize knownN l stored o = K at hK ⊢
  have w13 : IntKind.i64.wrap 13 = 13 := by decide
  refine Spec.is C91ok rfl ?_
  by_cases g1 : o.code = 4
  · by_cases g2 : (o.imm.toNat : Int) = 13
    · by_cases g3 : stored < 0
      · rw [if_pos (by omega)] at hK
        simp only [push_cast, simprocAttr, g1, g2, g3, hb, w13]
        rw [hK]
      · obtain ⟨bt, pre, cap, sp, rfl, e2, e3, e4⟩ := own_lie ho (by omega)
        rw [if_neg (by omega)] at hK
        have q1 : stored.toNat < l.length := by omega
        have q2 : 0 ≤ stored := by omega
        generalize hs : l.getD stored.toNat IOp.zero = s at hK ⊢
        simp only [push_cast, simprocAttr, g1, g2, g3, hb, e2, w13, q1, q2, hst]
        intro c hc
        have f1 : ¬ b5 = c := fun e => by rw [← e, hb] at hc; cases hc
        have f2 : ¬ bt = c := fun e => by rw [← e, e2] at hc; cases hc
        simp only [push_cast, simprocAttr, upd_at, f1, f2, hb, e2, q1, q2, hst, hs]
        refine ⟨fun q => ⟨?_, sub_upd hc (.refl _)⟩, fun q => ⟨?_, sub_upd hc (.refl _)⟩⟩
        · rw [hK, if_pos (by omega)]
        · rw [hK, if_neg (by omega)]
    · rw [if_pos (by omega)] at hK
      simp only [push_cast, simprocAttr, g1, g2, hb]
      exact fun _ => by rw [hK]
  · rw [if_pos (by omega)] at hK
    simp only [push_cast, simprocAttr, g1, hb]
    exact fun _ => by rw [hK]
/-- A reader as it lies: what it has made, what each value is called now, the last Store. -/
def RdO (g : Heap) (b5 : Nat) (p vx last : AV) (l : List IOp) (vt : AV) (to : List Int) (stored : Int) (h : Heap) : Prop :=
  ∃ vo h1, Own 6 (Ab.upd g b5 ⟨[p, vo, vx, last, vt, .int .i64 stored], 0⟩) vo (l.flatMap IOp.cells) l.length h1 ∧ Own 1 h1 vt (to.map (.int .i64)) to.length h
theorem put_spec {g : Heap} {b5 : Nat} {p vx last vt : AV} {l : List IOp} {to : List Int} {stored : Int} (hr : RdO g b5 p vx last l vt to stored h) (hl : l.length + 1 ≤ 1000000000000) (o : IOp) :
    Spec Try.prog G 92 [.ptr b5 0, .agg o.cells] h (fun r h' => r = .int .i64 l.length ∧ RdO g b5 p vx last (l ++ [o]) vt to stored h') := by
  obtain ⟨vo, h1, o1, o2⟩ := hr
  obtain ⟨h2, o3, o4⟩ := own_swap o1 o2
  have hb := o4.get (o3.get (upd_same _ _ _))
  have hal := o4.alen
  refine Spec.walk C92ok rfl ?_
  simp only [push_cast, simprocAttr, hb]
  refine Own.app o4 (m := 1) (IOp.len _) (by omega) (by omega) fun v5 h5 o5 => ?_
  have hb5 := o5.get (o3.get (upd_same _ _ _))
  simp only [push_cast, simprocAttr, hb5, o5.one]
  have o6 := Own.upd o5 (b := b5) (x := ⟨[p, v5, vx, last, vt, .int .i64 stored], 0⟩) (.inr ⟨_, o3.get (upd_same _ _ _)⟩)
  have o7 := Own.upd o3 (b := b5) (x := ⟨[p, v5, vx, last, vt, .int .i64 stored], 0⟩) (.inr ⟨_, upd_same _ _ _⟩)
  rw [upd_upd] at o7
  obtain ⟨h8, o8, o9⟩ := own_swap o7 o6
  have hal5 := o6.alen
  simp only [push_cast, simprocAttr, hal5]
  refine ⟨?_, v5, h8, ?_, o9⟩
  · have e : (l.length : Int) + 1 - 1 = l.length := by omega
    rw [e, wrap_i64 (by omega) (by omega)]
  · rw [List.flatMap_append, List.length_append]
    simpa using o8
theorem RdO.upd {g : Heap} {b5 : Nat} {p vx last vt : AV} {l : List IOp} {to : List Int} {stored : Int} (hr : RdO g b5 p vx last l vt to stored h) {b : Nat} {x : Blk} (hb : h b = none) : RdO (Ab.upd g b x) b5 p vx last l vt to stored (Ab.upd h b x) := by
  obtain ⟨vo, h1, o1, o2⟩ := hr
  have n1 := o2.sub.none hb
  have n2 := o1.sub.none n1
  have hne := upd_none n2
  refine ⟨vo, _, ?_, o2.upd (.inl hb)⟩
  rw [upd_comm hne.1]
  exact o1.upd (.inl n1)
@[push_cast] theorem IOp.spp (o o' : IOp) : splice o.cells 0 o'.cells = o'.cells := rfl
theorem fop_spec {g : Heap} {b5 : Nat} {p vx last vt : AV} {l : List IOp} {to : List Int} {stored : Int} (hr : RdO g b5 p vx last l vt to stored h) (hl : l.length + 1 ≤ 1000000000000) (hst : stored < l.length) (o : IOp) (hR : renOK to o) :
    Spec Try.prog G 62 [.ptr b5 0, .agg o.cells] h (fun r h' => ∃ c x, g c = none ∧ c ≠ b5 ∧ r = .int .i64 (if 0 ≤ knownN l stored (ren to o) then knownN l stored (ren to o) else l.length) ∧
      RdO (Ab.upd g c x) b5 p vx last (if 0 ≤ knownN l stored (ren to o) then l else l ++ [ren to o]) vt to (if 0 ≤ knownN l stored (ren to o) then stored else if (ren to o).code = 5 then (l.length : Int) else stored) h') := by
  have hr0 := hr
  obtain ⟨vo, h1, o1, o2⟩ := hr
  have hb := o2.get (o1.get (upd_same _ _ _))
  refine Spec.walk C62ok rfl ?_
  simp only [push_cast, simprocAttr]
  intro b3 hb3
  have f3 : ¬ b5 = b3 := fun e => by rw [← e, hb] at hb3; cases hb3
  have f4 : ¬ b3 = b5 := fun e => f3 e.symm
  have hg3 : g b3 = none := by
    have := o1.sub.none (o2.sub.none hb3)
    rwa [upd_ne f4] at this
  have hu := hr0.upd (x := ⟨o.cells, 0⟩) hb3
  obtain ⟨wo, k1, u1, u2⟩ := hu
  have hub := u2.get (u1.get (upd_same _ _ _))
  refine (names_spec hub u2 o hR).to ?_
  have hcode : (ren to o).code = o.code := by unfold ren; split <;> (try split) <;> rfl
  generalize ren to o = o' at hcode ⊢
  simp only [push_cast, simprocAttr]
  have hu2 : RdO (Ab.upd g b3 ⟨o'.cells, 0⟩) b5 p vx last l vt to stored (Ab.upd h b3 ⟨o'.cells, 0⟩) := hr0.upd hb3
  obtain ⟨wo, k1, u1, u2⟩ := hu2
  have hub := u2.get (u1.get (upd_same _ _ _))
  obtain ⟨k2, u3, u4⟩ := own_swap u1 u2
  refine (known_spec hub u4 hst o').to ?_
  simp only [push_cast, simprocAttr]
  refine ⟨fun hk => ?_, fun hk => ?_⟩
  · simp only [if_pos hk]
    exact ⟨b3, _, hg3, f4, trivial, wo, k1, u1, u2⟩
  · simp only [if_neg hk]
    refine (put_spec ⟨wo, k1, u1, u2⟩ hl o').mono ?_
    rintro _ h6 ⟨rfl, hr6⟩
    have hr7 := hr6
    obtain ⟨xo, j1, x1, x2⟩ := hr6
    have hb5 := x2.get (x1.get (upd_same _ _ _))
    have hb6 := x2.get (x1.get (b := b3) (by rw [upd_ne f4]; exact upd_same _ _ _))
    simp only [push_cast, simprocAttr, hb5, hb6]
    refine ⟨fun h5 => ?_, fun h5 => ?_⟩
    · rw [if_pos h5]
      have y1 := Own.upd x1 (b := b5) (x := ⟨[p, xo, vx, last, vt, .int .i64 (l.length : Int)], 0⟩) (.inr ⟨_, upd_same _ _ _⟩)
      rw [upd_upd] at y1
      exact ⟨b3, _, hg3, f4, xo, _, y1, x2.upd (.inr ⟨_, x1.get (upd_same _ _ _)⟩)⟩
    · rw [if_neg h5]
      exact ⟨b3, _, hg3, f4, hr7⟩
end Go.Ab
