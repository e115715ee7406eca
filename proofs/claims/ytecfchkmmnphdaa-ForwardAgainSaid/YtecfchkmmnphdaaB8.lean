/- Contracts: the document's block again. -/
import Derived.Test.YtecfchkmmnphdaaB7
set_option linter.unusedSimpArgs false
set_option linter.unusedVariables false
set_option maxRecDepth 10000
namespace Go.Ab
open Go.Proofs
variable {G : Glo} {h : Heap}
theorem Back_spec (b : IBk) (hw : b.wf) : Spec Try.prog G 39 [bkP b] h (Is (.agg b.cells) h) := by
  have hp := hw.hp
  have ho := hw.ho
  have he := hw.he
  obtain ⟨hs1, hs2, hs3⟩ := hw.hs
  refine Spec.is C39ok rfl ?_
  simp only [push_cast, simprocAttr]
  intro b2 hbb b3 hb3
  have hb23 := upd_none hb3
  generalize hX : (⟨[AV.nils, AV.nils, AV.nils, AV.int .i64 0], 0⟩ : Blk) = X at hb3 ⊢
  have hH2 : upd h b2 X b2 = some X := upd_same _ _ _
  have hsub : Sub h (upd h b2 X) := (Sub.refl h).alloc hbb
  generalize upd h b2 X = H at hb3 hH2 hsub ⊢
  refine lpc.rel [0, 2, 3, 4] (fun m ρ h' => ∃ (k : Nat) (v : AV), m = b.ops.length - k ∧ k ≤ b.ops.length ∧ Own 6 (upd H b3 ⟨[.ro (wds b.pcs) b.pcs.length, v, .nils, .int .i64 b.last], 0⟩) v ((b.ops.take k).flatMap IOp.cells) k h' ∧
    ρ = [(0, .cp b.cells 0), (2, .ptr b2 0), (3, .ptr b3 0), (4, .int .i64 (k : Int))]) ⟨_, 0, .nils, rfl, by omega, .nil, rfl⟩ ?_
  rintro m _ h2 ⟨k, v, rfl, hk, hown, rfl⟩
  have hb2 := hown.get (upd_same _ _ _)
  simp only [push_cast, simprocAttr, hb2]
  refine ⟨fun hk2 => ⟨hk2, hk2, ?_⟩, fun hk2 => ?_⟩
  · refine Own.app hown (m := 1) (IOp.len _) (by omega) (by omega) fun v3 h3 ho3 => ?_
    have hb3' := ho3.get (upd_same _ _ _)
    have ho4 := Own.upd ho3 (b := b3) (x := ⟨[.ro (wds b.pcs) b.pcs.length, v3, .nils, .int .i64 b.last], 0⟩) (.inr ⟨_, upd_same _ _ _⟩)
    rw [upd_upd] at ho4
    simp (disch := omega) only [push_cast, simprocAttr, wrap_i64, toNat_ofInt64, Nat.min_eq_left, Int.toNat_of_nonneg, hb3', ho3.one]
    exact ⟨_, _, by omega, .refl _, k + 1, v3, rfl, by omega, by rw [flat_snoc _ _ IOp.zero _ hk2]; exact ho4, rfl⟩
  · obtain rfl : k = b.ops.length := by omega
    rw [List.take_length] at hown
    refine wkQ.cell hown (cs' := [.ro (wds b.pcs) b.pcs.length, Ab.ops b.ops, .nils, .int .i64 b.last]) rfl (fun i => ?_) ?_
    · match i with
      | 0 => exact .inl rfl
      | 1 => exact .inr ⟨rfl, rfl⟩
      | 2 => exact .inl rfl
      | 3 => exact .inl rfl
      | i + 4 => exact .inl rfl
    clear hb2 hown hk hk2 v h2
    simp only [push_cast, simprocAttr]
    refine lpc.rel [0, 2, 3, 5] (fun m ρ h' => ∃ (k : Nat) (v : AV), m = b.exits.length - k ∧ k ≤ b.exits.length ∧ Own 5 (upd H b3 ⟨[.ro (wds b.pcs) b.pcs.length, Ab.ops b.ops, v, .int .i64 b.last], 0⟩) v ((b.exits.take k).flatMap IEx.cells) k h' ∧
      ρ = [(0, .cp b.cells 0), (2, .ptr b2 0), (3, .ptr b3 0), (5, .int .i64 (k : Int))]) ⟨_, 0, .nils, rfl, by omega, .nil, rfl⟩ ?_
    rintro m _ h2 ⟨k, v, rfl, hk, hown, rfl⟩
    have hb2 := hown.get (upd_same _ _ _)
    simp only [push_cast, simprocAttr]
    refine ⟨fun hk2 => ⟨hk2, hk2, fun b6 hb6 => ?_⟩, fun hk2 => ?_⟩
    · rw [era_none hb6]
      have hml := getD_map (n := k) hs3
      have hsn := flat_snoc IEx.cells b.exits IEx.zero k hk2
      generalize b.exits.getD k IEx.zero = e at hml hsn ⊢
      intro b7 hb7
      have hb73 : ¬ b3 = b7 := fun e => by rw [← e, hb2] at hb7; cases hb7
      have hb37 : ¬ b7 = b3 := fun e => hb73 e.symm
      have hh7 : H b7 = none := by
        have := hown.sub.none hb7
        rw [upd_ne hb37] at this
        exact this
      refine lpc.rel [0, 2, 3, 5, 6, 7, 8] (fun m ρ h' => ∃ (j : Nat) (v7 : AV), m = e.map.length - j ∧ j ≤ e.map.length ∧ Own 2 (upd h2 b7 ⟨[.int .i64 e.done, .int .u32 (e.pc.toNat : Int), .int .i64 e.to, .int .i64 e.why, v7], 0⟩) v7 ((e.map.take j).flatMap IVl.cells) j h' ∧
        ρ = [(0, .cp b.cells 0), (2, .ptr b2 0), (3, .ptr b3 0), (5, .int .i64 (k : Int)), (6, .cp e.cells 0), (7, .ptr b7 0), (8, .int .i64 (j : Int))]) ⟨_, 0, .nils, rfl, by omega, .nil, rfl⟩ ?_
      rintro m _ g2 ⟨j, v7, rfl, hj, ho7, rfl⟩
      have hg7 := ho7.get (upd_same _ _ _)
      simp only [push_cast, simprocAttr, hg7]
      refine ⟨fun hj2 => ⟨hj2, hj2, ?_⟩, fun hj2 => ?_⟩
      · refine Own.app ho7 (m := 1) (IVl.len _) (by omega) (by omega) fun v8 h8 ho8 => ?_
        have hg8 := ho8.get (upd_same _ _ _)
        have ho9 := Own.upd ho8 (b := b7) (x := ⟨[.int .i64 e.done, .int .u32 (e.pc.toNat : Int), .int .i64 e.to, .int .i64 e.why, v8], 0⟩) (.inr ⟨_, upd_same _ _ _⟩)
        rw [upd_upd] at ho9
        simp (disch := omega) only [push_cast, simprocAttr, wrap_i64, toNat_ofInt64, Nat.min_eq_left, Int.toNat_of_nonneg, hg8, ho8.one]
        exact ⟨_, _, by omega, .refl _, j + 1, v8, rfl, by omega, by rw [flat_snoc _ _ IVl.zero _ hj2]; exact ho9, rfl⟩
      · obtain rfl : j = e.map.length := by omega
        rw [List.take_length] at ho7
        refine wkQ.cell ho7 (cs' := e.cells) rfl (fun i => ?_) ?_
        · match i with
          | 0 => exact .inl rfl
          | 1 => exact .inl rfl
          | 2 => exact .inl rfl
          | 3 => exact .inl rfl
          | 4 => exact .inr ⟨rfl, rfl⟩
          | i + 5 => exact .inl rfl
        clear hg7 ho7 hj hj2 v7 g2
        have ho' := Own.upd hown (b := b7) (x := ⟨e.cells, 0⟩) (.inl hb7)
        have hb2' := ho'.get (b := b3) (by rw [upd_ne hb73]; exact upd_same _ _ _)
        simp only [push_cast, simprocAttr, hb2', upd_at, hb73, hb2]
        refine Own.app ho' (m := 1) (IEx.len _) (by omega) (by omega) fun v4 h4 ho4 => ?_
        have hg3 := ho4.get (b := b3) (by rw [upd_ne hb73]; exact upd_same _ _ _)
        have hg7 := ho4.get (b := b7) (upd_same _ _ _)
        simp (disch := omega) only [push_cast, simprocAttr, wrap_i64, toNat_ofInt64, Nat.min_eq_left, Int.toNat_of_nonneg, hg3, hg7, ho4.one]
        have ho5 := Own.upd ho4 (b := b3) (x := ⟨[.ro (wds b.pcs) b.pcs.length, Ab.ops b.ops, v4, .int .i64 b.last], 0⟩) (.inr ⟨_, by rw [upd_ne hb73]; exact upd_same _ _ _⟩)
        rw [upd_comm hb37, upd_upd] at ho5
        obtain ⟨h6, hs6, ho6⟩ := Own.drop ho5 (by rw [upd_ne hb37]; exact hh7)
        exact ⟨_, h6, by omega, hs6, k + 1, v4, rfl, by omega, by rw [hsn]; exact ho6, rfl⟩
    · obtain rfl : k = b.exits.length := by omega
      rw [List.take_length] at hown
      refine wkQ.cell hown (cs' := b.cells) rfl (fun i => ?_) ?_
      · match i with
        | 0 => exact .inl rfl
        | 1 => exact .inl rfl
        | 2 => exact .inr ⟨rfl, rfl⟩
        | 3 => exact .inl rfl
        | i + 4 => exact .inl rfl
      subst hX
      have hne : ¬ b2 = b3 := fun e => by rw [← e, hH2] at hb3; cases hb3
      simp only [push_cast, simprocAttr, upd_at, hne, hH2]
      exact sub_upd hbb (sub_upd hb23.2 hsub)
theorem getD_ext {α : Type} {a b : List α} (d : α) (hl : a.length = b.length) (h : ∀ i, i < a.length → a.getD i d = b.getD i d) : a = b := by
  apply List.ext_getElem hl
  intro i h1 h2
  have := h i h1
  simpa [h1, h2] using this
theorem vl_eqd (x y : IVl) (neg : Bool) : aeq neg [.i, .i] (.agg x.cells) (.agg y.cells) = some (.bool (decide (x = y) != neg)) := by
  obtain ⟨a, b⟩ := x
  obtain ⟨c, d⟩ := y
  simp [aeq, cellsEq, IVl.cells]
  rw [Bool.eq_iff_iff]; simp
theorem SameMaps_spec (a b : List IVl) (hl : a.length ≤ 140737488355328) : Spec Try.prog G 64 [vls a, vls b] h (Is (.bool (decide (a = b))) h) := by
  refine Spec.is C64ok rfl ?_
  simp only [push_cast, simprocAttr]
  refine ⟨fun h1 => ?_, fun h1 => ?_⟩
  · rw [decide_eq_false (fun e => h1 (by rw [e]))]
  · have h1 : a.length = b.length := by omega
    refine lpc.rel [0, 1, 5] (fun m ρ h' => ∃ k : Nat, m = a.length - k ∧ k ≤ a.length ∧ h = h' ∧ (∀ i, i < k → a.getD i IVl.zero = b.getD i IVl.zero) ∧
      ρ = [(0, vls a), (1, vls b), (5, .int .i64 (k : Int))]) ⟨_, 0, rfl, by omega, rfl, by intro i hi; omega, rfl⟩ ?_
    rintro m _ _ ⟨k, rfl, hk, rfl, hall, rfl⟩
    simp only [push_cast, simprocAttr, vl_eqd]
    refine ⟨fun hk2 => ⟨hk2, hk2, by omega, by omega, fun hv => ?_, fun hv => ?_⟩, fun hk2 => ?_⟩
    · rw [decide_eq_false (fun e => by rw [e] at hv; simp at hv)]
    · simp (disch := omega) only [push_cast, simprocAttr, wrap_i64, toNat_ofInt64, Nat.min_eq_left, Int.toNat_of_nonneg]
      refine ⟨_, _, by omega, .refl _, k + 1, rfl, by omega, rfl, fun i hi => ?_, rfl⟩
      by_cases hik : i = k
      · subst hik; simpa using hv
      · exact hall i (by omega)
    · obtain rfl : k = a.length := by omega
      rw [decide_eq_true (getD_ext IVl.zero h1 hall)]
theorem rSame_spec (a b : IBk) (ha : a.wf) : Spec Try.prog G 38 [.agg a.cells, .agg b.cells] h (Is (.bool (decide (a = b))) h) := by
  have hp := ha.hp
  have ho := ha.ho
  have he := ha.he
  refine Spec.is C38ok rfl ?_
  simp only [push_cast, simprocAttr]
  refine ⟨fun h1 => ?_, fun h1 => ?_⟩
  · rw [decide_eq_false (fun e => by rw [e] at h1; simp at h1)]
  · have l1 : a.pcs.length = b.pcs.length := by omega
    have l2 : a.ops.length = b.ops.length := by omega
    have l3 : a.exits.length = b.exits.length := by omega
    refine lpc.rel [2, 3, 5] (fun m ρ h' => ∃ k : Nat, m = a.pcs.length - k ∧ k ≤ a.pcs.length ∧ h = h' ∧ (∀ i, i < k → a.pcs.getD i 0#32 = b.pcs.getD i 0#32) ∧
      ρ = [(2, .cp a.cells 0), (3, .cp b.cells 0), (5, .int .i64 (k : Int))]) ⟨_, 0, rfl, by omega, rfl, by intro i hi; omega, rfl⟩ ?_
    rintro m _ _ ⟨k, rfl, hk, rfl, hall, rfl⟩
    simp only [push_cast, simprocAttr]
    refine ⟨fun hk2 => ⟨hk2, hk2, by omega, by omega, fun hv => ?_, fun hv => ?_⟩, fun hk2 => ?_⟩
    · rw [decide_eq_false (fun e => by rw [e] at hv; simp at hv)]
    · simp (disch := omega) only [push_cast, simprocAttr, wrap_i64, toNat_ofInt64, Nat.min_eq_left, Int.toNat_of_nonneg]
      refine ⟨_, _, by omega, .refl _, k + 1, rfl, by omega, rfl, fun i hi => ?_, rfl⟩
      by_cases hik : i = k
      · subst hik; first | exact hv | simpa using hv
      · exact hall i (by omega)
    · obtain rfl : k = a.pcs.length := by omega
      have q1 := getD_ext 0#32 l1 hall
      refine lpc.rel [2, 3, 6] (fun m ρ h' => ∃ k : Nat, m = a.ops.length - k ∧ k ≤ a.ops.length ∧ h = h' ∧ (∀ i, i < k → a.ops.getD i IOp.zero = b.ops.getD i IOp.zero) ∧
        ρ = [(2, .cp a.cells 0), (3, .cp b.cells 0), (6, .int .i64 (k : Int))]) ⟨_, 0, rfl, by omega, rfl, by intro i hi; omega, rfl⟩ ?_
      rintro m _ _ ⟨k, rfl, hk, rfl, hall, rfl⟩
      simp only [push_cast, simprocAttr, op_eqd]
      refine ⟨fun hk2 => ⟨hk2, hk2, by omega, by omega, fun hv => ?_, fun hv => ?_⟩, fun hk2 => ?_⟩
      · rw [decide_eq_false (fun e => by rw [e] at hv; simp at hv)]
      · simp (disch := omega) only [push_cast, simprocAttr, wrap_i64, toNat_ofInt64, Nat.min_eq_left, Int.toNat_of_nonneg]
        refine ⟨_, _, by omega, .refl _, k + 1, rfl, by omega, rfl, fun i hi => ?_, rfl⟩
        by_cases hik : i = k
        · subst hik; simpa using hv
        · exact hall i (by omega)
      · obtain rfl : k = a.ops.length := by omega
        have q2 := getD_ext IOp.zero l2 hall
        refine lpc.rel [2, 3, 7] (fun m ρ h' => ∃ k : Nat, m = a.exits.length - k ∧ k ≤ a.exits.length ∧ h = h' ∧ (∀ i, i < k → a.exits.getD i IEx.zero = b.exits.getD i IEx.zero) ∧
          ρ = [(2, .cp a.cells 0), (3, .cp b.cells 0), (7, .int .i64 (k : Int))]) ⟨_, 0, rfl, by omega, rfl, by intro i hi; omega, rfl⟩ ?_
        rintro m _ _ ⟨k, rfl, hk, rfl, hall, rfl⟩
        simp only [push_cast, simprocAttr]
        refine ⟨fun hk2 => ⟨hk2, hk2, fun c8 hc8 => ?_⟩, fun hk2 => ?_⟩
        · rw [era_none hc8]
          refine ⟨by omega, by omega, fun c9 hc9 => ?_⟩
          rw [era_none hc9]
          have hml := getD_map (n := k) ha.hm
          have hne : a.exits.getD k IEx.zero ≠ b.exits.getD k IEx.zero → decide (a = b) = false := fun hn => decide_eq_false (fun e => hn (by rw [e]))
          have hgo : a.exits.getD k IEx.zero = b.exits.getD k IEx.zero → ∀ i, i < k + 1 → a.exits.getD i IEx.zero = b.exits.getD i IEx.zero := by
            intro hv i hi
            by_cases hik : i = k
            · subst hik; exact hv
            · exact hall i (by omega)
          generalize a.exits.getD k IEx.zero = x at hml hne hgo ⊢
          generalize b.exits.getD k IEx.zero = y at hne hgo ⊢
          refine ⟨fun h4 => (SameMaps_spec x.map y.map hml).to ?_, fun h4 => ?_⟩
          · simp only [push_cast, simprocAttr]
            refine ⟨fun h5 => by rw [hne (fun e => h5 (by rw [e]))], fun h5 => ?_⟩
            simp (disch := omega) only [push_cast, simprocAttr, wrap_i64, toNat_ofInt64, Nat.min_eq_left, Int.toNat_of_nonneg]
            refine ⟨_, _, by omega, .refl _, k + 1, rfl, by omega, rfl, hgo ?_, rfl⟩
            obtain ⟨x1, x2, x3, x4, x5⟩ := x
            obtain ⟨y1, y2, y3, y4, y5⟩ := y
            simp only at h4 h5
            simp [h4.1.1.1, h4.1.1.2, h4.1.2, h4.2, h5]
          · refine ⟨?_, .refl _⟩
            rw [hne (fun e => by rw [e] at h4; simp at h4)]
        · obtain rfl : k = a.exits.length := by omega
          have q3 := getD_ext IEx.zero l3 hall
          rw [decide_eq_true]
          obtain ⟨w1, w2, w3, w4⟩ := a
          obtain ⟨v1, v2, v3, v4⟩ := b
          simp only at *
          simp [q1, q2, q3, h1.1.1.1]
end Go.Ab
