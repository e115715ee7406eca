/- Contracts of the document's record: all that is read. -/
import Derived.Test.YtecfchkmmnphdaaR9
import Derived.Test.YtecfchkmmnphdaaRq
set_option linter.unusedSimpArgs false
set_option linter.unusedVariables false
namespace Go.Ab
open Go.Proofs
variable {G : Glo} {h : Heap}
theorem rRead_spec (b : List (BitVec 8)) (hb : b.length ≤ 140737488355328) : Spec Try.prog G 25 [byt b] h (Is (.tup [evts (readL b), .int .i64 (readE b)]) h) := by
  refine Spec.weak (Q := fun r h' => Sub h h' ∧ (r = .tup [evts (readL b), .int .i64 (readE b)] ∨ readL b = [] ∧ r = .tup [.nils, .int .i64 (readE b)])) ?_ ?_
  · refine Spec.walk C25ok rfl ?_
    simp only [push_cast, simprocAttr]
    intro b4 hb4 b7 hb7
    have hb7' := upd_none hb7
    rw [zero_evt] at *
    refine lpc.rel [0, 4, 5, 6, 7] (fun m ρ h' => ∃ (left pos : Nat) (l : List Evt) (t : BitVec 64) (last : Evt) (v : AV), m = left + 1 ∧ l.length + left = 4096 ∧ pos ≤ b.length ∧ Own 45 (upd h b7 ⟨last.cells, 0⟩) v (l.flatMap Evt.cells) l.length h' ∧
      rdA 4096 b Past.zero = ((rdA left (b.drop pos) ⟨t, last.regs, last.csrs⟩).1, l ++ (rdA left (b.drop pos) ⟨t, last.regs, last.csrs⟩).2) ∧
      ρ = [(0, byt b), (4, v), (5, .int .i64 pos), (6, .int .u64 t.toNat), (7, .ptr b7 0)]) ⟨_, 4096, 0, [], 0, Evt.zero, .sl b4 0 0 0, rfl, rfl, by omega, ?_, by rw [show (⟨0, Evt.zero.regs, Evt.zero.csrs⟩ : Past) = Past.zero from rfl]; simp, rfl⟩ ?_
    · have := Own.row (sz := 45) (g := upd h b7 ⟨Evt.zero.cells, 0⟩) b4 0 0 [] [] 0 (by rw [upd_ne hb7'.1.symm]; exact hb4) rfl (by omega)
      rw [upd_comm hb7'.1] at this
      exact this
    · rintro m _ h2 ⟨left, pos, l, t, last, v, rfl, hll, hpos, ho, hrd, rfl⟩
      have hb2 := ho.get (upd_same _ _ _)
      have hal := ho.alen
      have hsub : Sub h h2 := (sub_new hb7'.2 (.refl _)).trans ho.sub
      simp only [push_cast, simprocAttr, hb2, hal]
      refine ⟨fun h1 => ⟨fun h3 => ?_, fun h3 => ?_⟩, fun h1 => ?_⟩
      · have hl0 : left = 0 := by omega
        subst hl0
        have hne : b.drop pos ≠ [] := fun e => by have := congrArg List.length e; simp at this; omega
        have he : readE b = 3 := by rw [readE, hrd]; simp only [rdA, hne, if_false]
        exact ⟨hsub, .inr ⟨by rw [readL, he]; rfl, by rw [he]⟩⟩
      · obtain ⟨left, rfl⟩ : ∃ k, left = k + 1 := ⟨left - 1, by omega⟩
        have hne : b.drop pos ≠ [] := fun e => by have := congrArg List.length e; simp at this; omega
        refine (revent_spec b pos t last hb (by omega)).mono ?_
        rintro r _ ⟨rfl, hv⟩
        cases hr : rdE ⟨t, last.regs, last.csrs⟩ (b.drop pos) with
        | none =>
          rw [hr] at hv
          obtain ⟨e, rfl⟩ := hv
          simp only [push_cast, simprocAttr]
          intro b8 hb8
          simp only [push_cast, simprocAttr, era_none hb8]
          have he : readE b = 1 := by rw [readE, hrd, rdA_none hne hr]
          exact ⟨hsub, .inr ⟨by rw [readL, he]; rfl, by rw [he]⟩⟩
        | some y =>
          rw [hr] at hv
          simp only [evtV] at hv
          subst hv
          rw [rdA_some hne hr] at hrd
          obtain ⟨hrt, _, hbs⟩ := evB_rdE hr
          have hev : y.1.kind = 1 ∨ y.1.kind = 2 ∨ y.1.kind = 3 := by
            simp only [Evt.right] at hrt
            split at hrt
            · exact .inl ‹_›
            · split at hrt
              · exact .inr (.inl ‹_›)
              · split at hrt
                · exact .inr (.inr ‹_›)
                · cases hrt
          obtain ⟨p1, p2, _⟩ := pos_of (r := y.2) ⟨(evB y.1 ⟨t, last.regs, last.csrs⟩).length, by rw [hbs]; simp, by rw [hbs]; simp⟩ hpos
          simp only [push_cast, simprocAttr]
          intro b8 hb8
          simp only [push_cast, simprocAttr, era_none hb8]
          refine Own.app ho (m := 1) (by rw [Evt.len]) (by omega) (by omega) fun v5 h5 ho5 => ?_
          have hb5 := ho5.get (upd_same _ _ _)
          simp only [push_cast, simprocAttr, hb5]
          refine ⟨fun hk2 => ?_, fun hk2 => ?_⟩
          · have ho6 := Own.upd ho5 (b := b7) (x := ⟨y.1.cells, 0⟩) (.inr ⟨_, upd_same _ _ _⟩)
            rw [upd_upd] at ho6
            refine ⟨_, _, by omega, .refl _, left, _, l ++ [y.1], y.1.tick, y.1, v5, rfl, by simp; omega, p2, by rw [evs_snoc, List.length_append]; exact ho6, ?_, rfl⟩
            rw [hrd, p1]
            simp [evP, hk2]
          · refine ⟨_, _, by omega, .refl _, left, _, l ++ [y.1], y.1.tick, last, v5, rfl, by simp; omega, p2, by rw [evs_snoc, List.length_append]; exact ho5, ?_, rfl⟩
            rw [hrd, p1]
            have : y.1.kind = 1 ∨ y.1.kind = 3 := by omega
            rcases this with h | h <;> simp [evP, h]
      · have hne : b.drop pos = [] := List.drop_eq_nil_of_le (by omega)
        rw [hne, rdA_nil] at hrd
        have he : readE b = 0 := by rw [readE, hrd]
        have hl : readL b = l := by rw [readL, if_pos he, hrd]; simp
        refine wkQ.own ho ?_
        simp only [push_cast, simprocAttr]
        rw [he, hl]
        exact ⟨sub_new hb7'.2 (.refl _), .inl rfl⟩
  · rintro r h' ⟨hs, rfl | ⟨hl, rfl⟩⟩
    · exact ⟨_, _, ⟨rfl, rfl⟩, Le.sub hs (Le.refl _ _)⟩
    · rw [hl]
      exact ⟨_, _, ⟨rfl, rfl⟩, Le.sub hs (Le.tup1 Le.nils)⟩
end Go.Ab
