/- Contracts of package record: what is read. -/
import Derived.Test.YtecfchkmmnphdaaR7
set_option linter.unusedSimpArgs false
set_option linter.unusedVariables false
namespace Go.Ab
open Go.Proofs
variable {G : Glo} {h : Heap}
theorem zero_rd (v : AV) : [v, AV.bool false, .int .u64 0, .int .u32 0, .int .u32 0, .int .u32 0, .int .u32 0, .int .u32 0, .int .u32 0, .int .u32 0, .int .u32 0, .int .u32 0, .int .u32 0, .int .u32 0, .int .u32 0, .int .u32 0, .int .u32 0, .int .u32 0, .int .u32 0, .int .u32 0, .int .u32 0, .int .u32 0, .int .u32 0, .int .u32 0, .int .u32 0, .int .u32 0, .int .u32 0, .int .u32 0, .int .u32 0, .int .u32 0, .int .u32 0, .int .u32 0, .int .u32 0, .int .u32 0, .int .u32 0, .int .u32 0, .int .u32 0, .int .u32 0, .int .u32 0, .int .u32 0, .int .u32 0, .int .u32 0] = v :: AV.bool false :: Past.zero.cells := by
  simp [Past.cells, Past.zero, Rg.zero, Kp.zero, Kp.l, wds]
theorem evs_snoc (l : List Evt) (e : Evt) : (l ++ [e]).flatMap Evt.cells = l.flatMap Evt.cells ++ e.cells := by simp
theorem Read_spec (bs0 : List (BitVec 8)) : Spec Try.prog G 24 [byt bs0] h (Is (.tup [evts (readL bs0), .int .i64 (readE bs0)]) h) := by
  refine Spec.weak (Q := fun r h' => ∃ v h1, r = .tup [v, .int .i64 (readE bs0)] ∧ Own 45 h v ((readL bs0).flatMap Evt.cells) (readL bs0).length h1 ∧ Sub h1 h') ?_ ?_
  · refine Spec.walk C24ok rfl ?_
    simp only [push_cast, simprocAttr]
    intro b hb
    simp only [push_cast, simprocAttr, zero_rd]
    refine lpc.rel [4, 5] (fun m ρ h' => ∃ (left : Nat) (l : List Evt) (bs : List (BitVec 8)) (p : Past) (v : AV), m = left + 1 ∧ l.length + left = 4096 ∧ Own 45 (upd h b ⟨byt bs :: .bool false :: p.cells, 0⟩) v (l.flatMap Evt.cells) l.length h' ∧
      rdA 4096 bs0 Past.zero = ((rdA left bs p).1, l ++ (rdA left bs p).2) ∧ ρ = [(4, .ptr b 0), (5, v)]) ⟨_, 4096, [], bs0, Past.zero, .nils, rfl, rfl, .nil, by simp, rfl⟩ ?_
    rintro m _ h2 ⟨left, l, bs, p, v, rfl, hll, ho, hrd, rfl⟩
    have hb2 := ho.get (upd_same _ _ _)
    have hal := ho.alen
    have hE : rdA left bs p = rdA left bs p := rfl
    simp only [push_cast, simprocAttr, hb2, byt, hal]
    have hsub : Sub h h2 := ((Sub.refl h).alloc hb).trans ho.sub
    refine ⟨fun h1 => ⟨fun h3 => ?_, fun h3 => ?_⟩, fun h1 => ?_⟩
    · have hl0 : left = 0 := by omega
      subst hl0
      have hne : bs ≠ [] := fun e => by rw [e] at h1; simp at h1
      have he : readE bs0 = 3 := by rw [readE, hrd]; simp [rdA, hne]
      exact ⟨.nils, h, by rw [he], by rw [readL, he]; exact .nil, hsub⟩
    · obtain ⟨left, rfl⟩ : ∃ k, left = k + 1 := ⟨left - 1, by omega⟩
      have hne : bs ≠ [] := fun e => by rw [e] at h1; simp at h1
      refine (eventR_spec hb2 hne).mono ?_
      rintro _ _ ⟨e, bs', bad', p', rfl, rfl, ho3⟩
      simp only [push_cast, simprocAttr]
      intro b6 hb6
      have hb6' := upd_none hb6
      simp only [push_cast, simprocAttr, upd_at, hb6'.1, hb6'.1.symm, hb6, era_none hb6]
      have q := ho3.2 rfl
      refine ⟨fun hbad => ?_, fun hbad => ?_⟩
      · have hn : rdE p bs = none := by
          cases hr : rdE p bs with
          | none => rfl
          | some y =>
            rw [hr] at q
            rw [hbad] at q
            cases q.2.2
        have he : readE bs0 = 1 := by rw [readE, hrd]; simp [rdA, hne, hn]
        exact ⟨.nils, h, by rw [he], by rw [readL, he]; exact .nil, by
          intro d y hd
          have : ¬ d = b := fun e => by rw [e, hb] at hd; cases hd
          rw [upd_at, if_neg this]
          exact hsub d y hd⟩
      · subst hbad
        have ho4 := Own.upd ho (b := b) (x := ⟨byt bs' :: .bool false :: p'.cells, 0⟩) (.inr ⟨_, upd_same _ _ _⟩)
        rw [upd_upd] at ho4
        refine Own.app ho4 (m := 1) (by rw [e.len]) (by omega) (by omega) fun v5 h5 ho5 => ?_
        simp only [push_cast, simprocAttr]
        have hd : rdA (left + 1) bs p = ((rdA left bs' (evP e p)).1, e :: (rdA left bs' (evP e p)).2) := by
          cases hr : rdE p bs with
          | none => rw [hr] at q; cases q
          | some y =>
            rw [hr] at q
            obtain ⟨⟨rfl, rfl⟩, rfl, _⟩ := q
            simp [rdA, hne, hr]
        have hp : p' = evP e p := by
          cases hr : rdE p bs with
          | none => rw [hr] at q; cases q
          | some y => rw [hr] at q; obtain ⟨⟨rfl, rfl⟩, _⟩ := q; rfl
        subst hp
        refine ⟨_, _, by omega, .refl _, left, l ++ [e], bs', evP e p, v5, rfl, by simp; omega, by rw [evs_snoc, List.length_append]; exact ho5, ?_, rfl⟩
        rw [hrd, hd]
        simp
    · have hne : bs = [] := List.eq_nil_of_length_eq_zero (by omega)
      subst hne
      have hr : rdA left [] p = (0, []) := by cases left <;> simp [rdA]
      have he : readE bs0 = 0 := by rw [readE, hrd, hr]
      have hl : readL bs0 = l := by rw [readL, if_pos he, hrd, hr]; simp
      obtain ⟨h4, hs4, ho4⟩ := Own.drop ho hb
      exact ⟨v, h4, by rw [he], by rw [hl]; exact ho4, hs4⟩
  · rintro r h' ⟨v, h1, rfl, ho, hs⟩
    exact ⟨_, _, ⟨rfl, rfl⟩, Le.sub hs (Le.tup1 ho.freeze)⟩
end Go.Ab
