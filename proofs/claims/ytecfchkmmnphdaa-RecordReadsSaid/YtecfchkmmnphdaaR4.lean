/- Contracts of package record: what is written. -/
import Derived.Test.YtecfchkmmnphdaaR3
set_option linter.unusedSimpArgs false
set_option linter.unusedVariables false
namespace Go.Ab
open Go.Proofs
variable {G : Glo} {h : Heap}
theorem evB_len (e : Evt) (p : Past) : (evB e p).length ≤ 200 := by
  have n1 := num_64 (e.tick - p.tick)
  have n2 := num_32 e.value
  have n3 := num_32 e.cause
  have n4 := num_32 e.epc
  have n5 := num_32 e.tval
  have hmr : (num (msk e.regs.toList p.regs.toList)).length ≤ 5 := num_len _ 4 (by have := msk_lt e.regs.toList p.regs.toList; rw [Vector.length_toList] at this; omega)
  have hcr := chg_len e.regs.toList p.regs.toList
  have hck := chg_len e.csrs.l p.kept.l
  rw [Vector.length_toList] at hcr
  rw [Kp.l_len] at hck
  simp only [evB, trapB]
  split
  · simp only [List.length_append, List.length_cons, List.length_nil]; omega
  · split
    · simp only [List.length_append, List.length_cons, List.length_nil]; omega
    · simp only [List.length_append, List.length_cons, List.length_nil]; omega
theorem Le.sub {r r' : AV} {h1 h2 h' : Heap} (hs : Sub h1 h') (hl : Le r h1 r' h2) : Le r h' r' h2 := by
  intro w v hw hr
  obtain ⟨k1, k2⟩ := hrep_less hw hs
  obtain ⟨x, y, z⟩ := hl w v k1 (hr.keep k2.keeps)
  exact ⟨x, y, fun b hb => z b (hs.none hb)⟩
theorem WrAt.sub {g b bs p} (hw : WrAt g b bs p h) : Sub g h := by
  obtain ⟨hg, v, ho⟩ := hw
  exact ((Sub.refl g).alloc hg).trans ho.sub
theorem wr_len : ∀ (l : List Evt) (p : Past) (bs : List (BitVec 8)), wr l p = some bs → bs.length ≤ 200 * l.length := by
  intro l
  induction l with
  | nil => intro p bs h; simp [wr] at h; subst h; simp
  | cons e r ih =>
    intro p bs h
    simp only [wr] at h
    split at h
    · obtain ⟨b2, h2, rfl⟩ := Option.map_eq_some_iff.1 h
      have := ih _ _ h2
      have := evB_len e p
      simp only [List.length_append, List.length_cons]
      omega
    · cases h
/-- What events are written as; none: an error. -/
def writeM (l : List Evt) : Option (List (BitVec 8)) := wr l Past.zero
def writeE (l : List Evt) : Int := if l.length > 4096 then 3 else if (writeM l).isSome then 0 else 1
def writeB (l : List Evt) : List (BitVec 8) := if l.length > 4096 then [] else (writeM l).getD []
theorem writeB_len (l : List Evt) : (writeB l).length ≤ 1000000 := by
  simp only [writeB]
  split
  · simp
  · rename_i h
    cases e : writeM l with
    | none => simp
    | some bs =>
      have := wr_len l _ _ e
      simp only [Option.getD_some]
      omega
theorem Write_spec (l : List Evt) (hl : l.length ≤ 100000000) : Spec Try.prog G 27 [evts l] h (Is (.tup [byt (writeB l), .int .i64 (writeE l)]) h) := by
  refine Spec.weak (Q := fun r h' => ∃ v h1, r = .tup [v, .int .i64 (writeE l)] ∧ Own 1 h v (bys (writeB l)) (writeB l).length h1 ∧ Sub h1 h') ?_ ?_
  · refine Spec.walk C27ok rfl ?_
    simp only [push_cast, simprocAttr, evts]
    refine ⟨fun h1 => ?_, fun h1 => ?_⟩
    · have h1 : l.length > 4096 := by omega
      exact ⟨.nils, h, by simp [writeE, h1], by simp only [writeB, h1, if_true]; exact .nil, .refl _⟩
    · have h1 : ¬ l.length > 4096 := by omega
      intro b hb
      simp only [push_cast, simprocAttr, zero_past]
      refine lpc.rel [4, 12, 13, 14] (fun m ρ h' => ∃ k bs p, m = l.length - k ∧ k ≤ l.length ∧ bs.length ≤ 200 * k ∧ WrAt h b bs p h' ∧ writeM l = (wr (l.drop k) p).map (bs ++ ·) ∧ ρ = [(4, .ptr b 0), (12, .ro (List.flatMap Evt.cells l) l.length), (13, .int .i64 l.length), (14, .int .i64 k)]) ⟨_, 0, [], Past.zero, rfl, by omega, by simp, ⟨hb, .nils, .nil⟩, by simp [writeM], rfl⟩ ?_
      rintro m _ h2 ⟨k, bs, p, rfl, hk, hbl, hw, hwr, rfl⟩
      obtain ⟨v2, hb2, ho2⟩ := hw.get
      simp only [push_cast, simprocAttr, hb2]
      refine ⟨fun hk2 => ?_, fun hk2 => ?_⟩
      · have e1 := flat_part Evt.cells 45 l (fun e _ => e.len) k hk2
        have hd : l.drop k = l[k] :: l.drop (k + 1) := List.drop_eq_getElem_cons hk2
        have hwl := evB_len l[k] p
        rw [hd] at hwr
        generalize l[k] = e at *
        simp only [push_cast, simprocAttr, hk2, e1]
        intro b6 hb6
        simp only [push_cast, simprocAttr, hb6, era_none hb6]
        refine (Right_spec e).to ?_
        cases hr : e.right with
        | false =>
          simp only [push_cast, simprocAttr]
          have hn : writeM l = none := by rw [hwr]; simp [wr, hr]
          exact ⟨.nils, h, by simp [writeE, h1, hn], by simp only [writeB, h1, if_false, hn]; exact .nil, hw.sub⟩
        | true =>
          simp only [push_cast, simprocAttr, hb2]
          refine ⟨fun ht => ?_, fun ht => ?_⟩
          · have hn : writeM l = none := by rw [hwr]; simp [wr, hr]; omega
            exact ⟨.nils, h, by simp [writeE, h1, hn], by simp only [writeB, h1, if_false, hn]; exact .nil, hw.sub⟩
          · refine (event_spec hw (by omega) e).mono ?_
            intro r3 h3 hw3
            simp (disch := omega) only [push_cast, simprocAttr, wrap_i64, toNat_ofInt64, Nat.min_eq_left, Int.toNat_of_nonneg]
            refine ⟨_, _, by omega, .refl _, k + 1, bs ++ evB e p, evP e p, rfl, by omega, by simp only [List.length_append]; omega, hw3, ?_, rfl⟩
            rw [hwr]
            simp only [wr, hr, true_and]
            rw [if_pos (by omega), Option.map_map]
            congr 1
            funext x
            simp
      · obtain rfl : k = l.length := by omega
        have hn : writeM l = some bs := by rw [hwr]; simp [wr]
        obtain ⟨h4, hs4, ho4⟩ := ho2.drop hb
        exact ⟨v2, h4, by simp [writeE, h1, hn], by simpa [writeB, h1, hn] using ho4, hs4⟩
  · rintro r h' ⟨v, h1, rfl, ho, hs⟩
    exact ⟨_, _, ⟨rfl, rfl⟩, Le.sub hs (Le.tup1 ho.freeze)⟩
theorem Size_spec (l : List Evt) (hl : l.length ≤ 100000000) : Spec Try.prog G 29 [evts l] h (Is (.tup [.int .i64 (writeB l).length, .int .i64 (writeE l)]) h) := by
  refine Spec.is C29ok rfl ?_
  simp only [push_cast, simprocAttr]
  refine (Write_spec l hl).to ?_
  simp only [push_cast, simprocAttr, byt]
end Go.Ab
