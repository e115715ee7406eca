/- Contracts: the program's block, and the document's. -/
import Derived.Test.YtjaknpophnolmaaB6a
import Derived.Test.YtjaknpophnolmaaLo
set_option linter.unusedSimpArgs false
set_option linter.unusedVariables false
set_option maxRecDepth 10000
namespace Go.Ab
open Go.Proofs
variable {G : Glo} {h : Heap}
theorem flat_snoc {α : Type} (f : α → List AV) (l : List α) (d : α) (k : Nat) (hk : k < l.length) : (l.take (k + 1)).flatMap f = (l.take k).flatMap f ++ f (l.getD k d) := by
  rw [List.take_add_one, List.flatMap_append]; simp [hk]
theorem Own_spec (b : IBk) (hw : b.wf) : Spec Try.prog G 13 [.agg b.cells] h (Is (bkP b) h) := by
  have hp := hw.hp
  have ho := hw.ho
  have he := hw.he
  obtain ⟨hs1, hs2, hs3⟩ := hw.hs
  refine Spec.weak (Q := fun r h' => ∃ c, h c = none ∧ r = .ptr c 0 ∧ h' = upd h c ⟨b.cells, 0⟩) ?_ ?_
  · refine Spec.walk C13ok rfl ?_
    simp only [push_cast, simprocAttr]
    intro b3 hb3
    refine lpc.rel [1, 3, 4] (fun m ρ h' => ∃ (k : Nat) (v : AV), m = b.ops.length - k ∧ k ≤ b.ops.length ∧ Own 6 (upd h b3 ⟨[.ro (wds b.pcs) b.pcs.length, v, .nils, .int .i64 b.last], 0⟩) v ((b.ops.take k).flatMap IOp.cells) k h' ∧
      ρ = [(1, .cp b.cells 0), (3, .ptr b3 0), (4, .int .i64 (k : Int))]) ⟨_, 0, .nils, rfl, by omega, .nil, rfl⟩ ?_
    rintro m _ h2 ⟨k, v, rfl, hk, hown, rfl⟩
    have hb2 := hown.get (upd_same _ _ _)
    simp only [push_cast, simprocAttr, hb2]
    refine ⟨fun hk2 => ⟨hk2, hk2, ?_⟩, fun hk2 => ?_⟩
    · refine Own.app hown (m := 1) (IOp.len _) (by omega) (by omega) fun v3 h3 ho3 => ?_
      have hb3' := ho3.get (upd_same _ _ _)
      have ho4 := Own.upd ho3 (b := b3) (x := ⟨[.ro (wds b.pcs) b.pcs.length, v3, .nils, .int .i64 b.last], 0⟩) (.inr ⟨_, upd_same _ _ _⟩)
      rw [upd_upd] at ho4
      simp (disch := omega) only [push_cast, simprocAttr, wrap_i64, toNat_ofInt64, Nat.min_eq_left, Int.toNat_of_nonneg, hb3', ho3.one]
      exact ⟨_, _, by omega, .refl _, k + 1, v3, rfl, by omega, by rw [flat_snoc _ _ IOp.zero _ hk2]; exact ho4, rfl⟩
    · obtain rfl : k = b.ops.length := by omega
      rw [List.take_length] at hown
      refine wkQ.cell hown (cs' := [.ro (wds b.pcs) b.pcs.length, Ab.ops b.ops, .nils, .int .i64 b.last]) rfl (fun i => ?_) ?_
      · match i with
        | 0 => exact .inl rfl
        | 1 => exact .inr ⟨rfl, rfl⟩
        | 2 => exact .inl rfl
        | 3 => exact .inl rfl
        | i + 4 => exact .inl rfl
      clear hb2 hown hk hk2 v h2
      simp only [push_cast, simprocAttr]
      refine lpc.rel [1, 3, 5] (fun m ρ h' => ∃ (k : Nat) (v : AV), m = b.exits.length - k ∧ k ≤ b.exits.length ∧ Own 5 (upd h b3 ⟨[.ro (wds b.pcs) b.pcs.length, Ab.ops b.ops, v, .int .i64 b.last], 0⟩) v ((b.exits.take k).flatMap IEx.cells) k h' ∧
        ρ = [(1, .cp b.cells 0), (3, .ptr b3 0), (5, .int .i64 (k : Int))]) ⟨_, 0, .nils, rfl, by omega, .nil, rfl⟩ ?_
      rintro m _ h2 ⟨k, v, rfl, hk, hown, rfl⟩
      have hb2 := hown.get (upd_same _ _ _)
      simp only [push_cast, simprocAttr]
      refine ⟨fun hk2 => ⟨hk2, hk2, fun b6 hb6 => ?_⟩, fun hk2 => ?_⟩
      · rw [era_none hb6]
        have hml := getD_map (n := k) hs3
        have hsn := flat_snoc IEx.cells b.exits IEx.zero k hk2
        generalize b.exits.getD k IEx.zero = e at hml hsn ⊢
        intro b7 hb7
        have hb73 : ¬ b3 = b7 := fun e => by rw [← e, hb2] at hb7; cases hb7
        have hb37 : ¬ b7 = b3 := fun e => hb73 e.symm
        have hh7 : h b7 = none := by
          have := hown.sub.none hb7
          rw [upd_ne hb37] at this
          exact this
        refine lpc.rel [1, 3, 5, 6, 7, 8] (fun m ρ h' => ∃ (j : Nat) (v7 : AV), m = e.map.length - j ∧ j ≤ e.map.length ∧ Own 2 (upd h2 b7 ⟨[.int .i64 e.done, .int .u32 (e.pc.toNat : Int), .int .i64 e.to, .int .i64 e.why, v7], 0⟩) v7 ((e.map.take j).flatMap IVl.cells) j h' ∧
          ρ = [(1, .cp b.cells 0), (3, .ptr b3 0), (5, .int .i64 (k : Int)), (6, .cp e.cells 0), (7, .ptr b7 0), (8, .int .i64 (j : Int))]) ⟨_, 0, .nils, rfl, by omega, .nil, rfl⟩ ?_
        rintro m _ g2 ⟨j, v7, rfl, hj, ho7, rfl⟩
        have hg7 := ho7.get (upd_same _ _ _)
        simp only [push_cast, simprocAttr, hg7]
        refine ⟨fun hj2 => ⟨hj2, hj2, ?_⟩, fun hj2 => ?_⟩
        · refine Own.app ho7 (m := 1) (IVl.len _) (by omega) (by omega) fun v8 h8 ho8 => ?_
          have hg8 := ho8.get (upd_same _ _ _)
          have ho9 := Own.upd ho8 (b := b7) (x := ⟨[.int .i64 e.done, .int .u32 (e.pc.toNat : Int), .int .i64 e.to, .int .i64 e.why, v8], 0⟩) (.inr ⟨_, upd_same _ _ _⟩)
          rw [upd_upd] at ho9
          simp (disch := omega) only [push_cast, simprocAttr, wrap_i64, toNat_ofInt64, Nat.min_eq_left, Int.toNat_of_nonneg, hg8, ho8.one]
          exact ⟨_, _, by omega, .refl _, j + 1, v8, rfl, by omega, by rw [flat_snoc _ _ IVl.zero _ hj2]; exact ho9, rfl⟩
        · obtain rfl : j = e.map.length := by omega
          rw [List.take_length] at ho7
          refine wkQ.cell ho7 (cs' := e.cells) rfl (fun i => ?_) ?_
          · match i with
            | 0 => exact .inl rfl
            | 1 => exact .inl rfl
            | 2 => exact .inl rfl
            | 3 => exact .inl rfl
            | 4 => exact .inr ⟨rfl, rfl⟩
            | i + 5 => exact .inl rfl
          clear hg7 ho7 hj hj2 v7 g2
          have ho' := Own.upd hown (b := b7) (x := ⟨e.cells, 0⟩) (.inl hb7)
          have hb2' := ho'.get (b := b3) (by rw [upd_ne hb73]; exact upd_same _ _ _)
          simp only [push_cast, simprocAttr, hb2', upd_at, hb73, hb2]
          refine Own.app ho' (m := 1) (IEx.len _) (by omega) (by omega) fun v4 h4 ho4 => ?_
          have hg3 := ho4.get (b := b3) (by rw [upd_ne hb73]; exact upd_same _ _ _)
          have hg7 := ho4.get (b := b7) (upd_same _ _ _)
          simp (disch := omega) only [push_cast, simprocAttr, wrap_i64, toNat_ofInt64, Nat.min_eq_left, Int.toNat_of_nonneg, hg3, hg7, ho4.one]
          have ho5 := Own.upd ho4 (b := b3) (x := ⟨[.ro (wds b.pcs) b.pcs.length, Ab.ops b.ops, v4, .int .i64 b.last], 0⟩) (.inr ⟨_, by rw [upd_ne hb73]; exact upd_same _ _ _⟩)
          rw [upd_comm hb37, upd_upd] at ho5
          obtain ⟨h6, hs6, ho6⟩ := Own.drop ho5 (by rw [upd_ne hb37]; exact hh7)
          exact ⟨_, h6, by omega, hs6, k + 1, v4, rfl, by omega, by rw [hsn]; exact ho6, rfl⟩
      · obtain rfl : k = b.exits.length := by omega
        rw [List.take_length] at hown
        refine wkQ.cell hown (cs' := b.cells) rfl (fun i => ?_) ?_
        · match i with
          | 0 => exact .inl rfl
          | 1 => exact .inl rfl
          | 2 => exact .inr ⟨rfl, rfl⟩
          | 3 => exact .inl rfl
          | i + 4 => exact .inl rfl
        simp only [push_cast, simprocAttr]
        exact ⟨b3, hb3, rfl, rfl⟩
  · rintro _ _ ⟨c, hc, rfl, rfl⟩
    exact ⟨_, _, ⟨rfl, rfl⟩, Le.box hc⟩
end Go.Ab
