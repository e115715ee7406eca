/- Contracts of the document's record: events, written. -/
import Derived.Test.YtecfchkmmnphdaaR5
set_option linter.unusedSimpArgs false
set_option linter.unusedVariables false
namespace Go.Ab
open Go.Proofs
variable {G : Glo} {h : Heap}
/-- Bytes of one's own. -/
def OB (g : Heap) (v : AV) (bs : List (BitVec 8)) (h : Heap) : Prop := Own 1 g v (bys bs) bs.length h
theorem OB.app {g v bs m} {xs : List (BitVec 8)} {Q : AV → Heap → Prop} (ho : OB g v bs h) (hm : xs.length = m) (hl : bs.length + m ≤ 140737488355328) (hq : ∀ v' h', OB g v' (bs ++ xs) h' → Q v' h') : appQ 1 1 m (bys xs) v h Q := by
  subst hm
  refine Own.app ho (m := xs.length) (by simp [bys]) (by omega) (by omega) fun v' h' ho' => hq v' h' ?_
  unfold OB
  rw [bys_app, List.length_append]
  exact ho'
theorem OB.app1 {g v bs} {x : BitVec 8} {Q : AV → Heap → Prop} (ho : OB g v bs h) (hl : bs.length + 1 ≤ 140737488355328) (hq : ∀ v' h', OB g v' (bs ++ [x]) h' → Q v' h') : appQ 1 1 1 [.int .u8 (x.toNat : Int)] v h Q :=
  OB.app (xs := [x]) ho rfl hl hq
theorem rEvent_spec (e last : Evt) (t : BitVec 64) : Spec Try.prog G 56 [.agg e.cells, .int .u64 t.toNat, .agg last.cells] h (Is (byt (evB e ⟨t, last.regs, last.csrs⟩)) h) := by
  refine Spec.weak (Q := fun r h' => Own 1 h r (bys (evB e ⟨t, last.regs, last.csrs⟩)) (evB e ⟨t, last.regs, last.csrs⟩).length h') ?_ ?_
  · have n1 := num_64 (e.tick - t)
    have n2 := num_32 e.value
    have n3 := num_32 e.cause
    have n4 := num_32 e.epc
    have n5 := num_32 e.tval
    have hmr : (num (msk e.regs.toList last.regs.toList)).length ≤ 5 := num_len _ 4 (by have := msk_lt e.regs.toList last.regs.toList; rw [Vector.length_toList] at this; omega)
    have hcr := chg_len e.regs.toList last.regs.toList
    have hck := chg_len e.csrs.l last.csrs.l
    rw [Vector.length_toList] at hcr
    rw [Kp.l_len] at hck
    have m1 := msk_lt e.regs.toList last.regs.toList
    rw [Vector.length_toList] at m1
    have m2 : msk e.csrs.l last.csrs.l < 2 ^ 7 := msk_lt e.csrs.l last.csrs.l
    refine Spec.walk C56ok rfl ?_
    simp only [push_cast, simprocAttr]
    intro b hb
    have ho : OB h (.sl b 0 1 1) [BitVec.ofInt 8 e.kind] (upd h b ⟨[AV.int .u8 (BitVec.ofInt 8 e.kind).toNat], 0⟩) := .row b 1 1 [] _ 0 hb rfl (by omega)
    refine (rNumber43_spec (e.tick - t)).to ?_
    simp only [push_cast, simprocAttr, byt]
    refine ho.app rfl (by simp only [List.length_append, List.length_cons, List.length_nil]; omega) fun v2 h2 ho2 => ?_
    simp only [push_cast, simprocAttr]
    refine ⟨fun hk => ?_, fun hk => ⟨fun hk3 => ?_, fun hk3 => ?_⟩⟩
    · refine ho2.app1 (by simp only [List.length_append, List.length_cons, List.length_nil]; omega) fun v3 h3 ho3 => ?_
      simp only [push_cast, simprocAttr]
      simpa [evB, hk, OB] using ho3
    · refine (rNumber43_spec (BitVec.setWidth 64 e.value)).to ?_
      simp only [push_cast, simprocAttr, byt]
      refine ho2.app rfl (by rw [sw64]; simp only [List.length_append, List.length_cons, List.length_nil]; omega) fun v3 h3 ho3 => ?_
      simp only [push_cast, simprocAttr]
      rw [sw64] at ho3
      simpa [evB, hk3, OB] using ho3
    · refine (rNumber43_spec (BitVec.setWidth 64 e.cause)).to ?_
      simp only [push_cast, simprocAttr, byt]
      refine ho2.app rfl (by rw [sw64]; simp only [List.length_append, List.length_cons, List.length_nil]; omega) fun v3 h3 ho3 => ?_
      rw [sw64] at ho3
      simp only [push_cast, simprocAttr]
      refine (rNumber43_spec (BitVec.setWidth 64 e.epc)).to ?_
      simp only [push_cast, simprocAttr, byt]
      refine ho3.app rfl (by rw [sw64]; simp only [List.length_append, List.length_cons, List.length_nil]; omega) fun v4 h4 ho4 => ?_
      rw [sw64] at ho4
      simp only [push_cast, simprocAttr]
      refine (rNumber43_spec (BitVec.setWidth 64 e.tval)).to ?_
      simp only [push_cast, simprocAttr, byt]
      refine ho4.app rfl (by rw [sw64]; simp only [List.length_append, List.length_cons, List.length_nil]; omega) fun v5 h5 ho5 => ?_
      rw [sw64] at ho5
      simp only [push_cast, simprocAttr]
      refine (rMask_spec e.regs.toList last.regs.toList 32 (by simp) (by simp) (by omega)).to ?_
      simp only [push_cast, simprocAttr]
      refine (rNumber43_spec (BitVec.ofNat 64 (msk e.regs.toList last.regs.toList))).to ?_
      have e1 : (BitVec.ofNat 64 (msk e.regs.toList last.regs.toList)).toNat = msk e.regs.toList last.regs.toList := by rw [BitVec.toNat_ofNat, Nat.mod_eq_of_lt (by omega)]
      simp only [push_cast, simprocAttr, byt, e1]
      refine ho5.app rfl (by simp only [List.length_append, List.length_cons, List.length_nil]; omega) fun v6 h6 ho6 => ?_
      simp only [push_cast, simprocAttr]
      refine (rchanged_spec e.regs.toList last.regs.toList 32 (by simp) (by simp) (by omega)).to ?_
      simp only [push_cast, simprocAttr, byt]
      refine ho6.app rfl (by simp only [List.length_append, List.length_cons, List.length_nil]; omega) fun v7 h7 ho7 => ?_
      simp only [push_cast, simprocAttr]
      refine (rKept_spec e.csrs).to ?_
      simp only [push_cast, simprocAttr]
      refine (rKept_spec last.csrs).to ?_
      simp only [push_cast, simprocAttr]
      refine (rMask_spec e.csrs.l last.csrs.l 7 rfl rfl (by omega)).to ?_
      have e2 : BitVec.setWidth 8 (BitVec.ofNat 64 (msk e.csrs.l last.csrs.l)) = BitVec.ofNat 8 (msk e.csrs.l last.csrs.l) := by
        apply BitVec.eq_of_toNat_eq
        simp only [BitVec.toNat_setWidth, BitVec.toNat_ofNat]
        omega
      simp only [push_cast, simprocAttr, e2]
      refine ho7.app1 (by simp only [List.length_append, List.length_cons, List.length_nil]; omega) fun v8 h8 ho8 => ?_
      simp only [push_cast, simprocAttr]
      refine (rKept_spec e.csrs).to ?_
      simp only [push_cast, simprocAttr]
      refine (rKept_spec last.csrs).to ?_
      simp only [push_cast, simprocAttr]
      refine (rchanged_spec e.csrs.l last.csrs.l 7 rfl rfl (by omega)).to ?_
      simp only [push_cast, simprocAttr, byt]
      refine ho8.app rfl (by simp only [List.length_append, List.length_cons, List.length_nil]; omega) fun v9 h9 ho9 => ?_
      simp only [push_cast, simprocAttr]
      simpa [evB, trapB, hk, hk3, OB, List.append_assoc] using ho9
  · rintro _ h' ho
    exact ⟨_, _, ⟨rfl, rfl⟩, ho.freeze⟩
def Evt.zero : Evt := ⟨0, 0, 0, 0, 0, 0, Rg.zero, Kp.zero⟩
theorem zero_evt : [AV.int .i64 0, .int .u64 0, .int .u32 0, .int .u32 0, .int .u32 0, .int .u32 0, .int .u32 0, .int .u32 0, .int .u32 0, .int .u32 0, .int .u32 0, .int .u32 0, .int .u32 0, .int .u32 0, .int .u32 0, .int .u32 0, .int .u32 0, .int .u32 0, .int .u32 0, .int .u32 0, .int .u32 0, .int .u32 0, .int .u32 0, .int .u32 0, .int .u32 0, .int .u32 0, .int .u32 0, .int .u32 0, .int .u32 0, .int .u32 0, .int .u32 0, .int .u32 0, .int .u32 0, .int .u32 0, .int .u32 0, .int .u32 0, .int .u32 0, .int .u32 0, .int .u32 0, .int .u32 0, .int .u32 0, .int .u32 0, .int .u32 0, .int .u32 0, .int .u32 0] = Evt.zero.cells := by
  simp [Evt.cells, Evt.zero, Rg.zero, Kp.zero, Kp.l, wds]
theorem kd_evt (k : Int) : [AV.int .i64 k, .int .u64 0, .int .u32 0, .int .u32 0, .int .u32 0, .int .u32 0, .int .u32 0, .int .u32 0, .int .u32 0, .int .u32 0, .int .u32 0, .int .u32 0, .int .u32 0, .int .u32 0, .int .u32 0, .int .u32 0, .int .u32 0, .int .u32 0, .int .u32 0, .int .u32 0, .int .u32 0, .int .u32 0, .int .u32 0, .int .u32 0, .int .u32 0, .int .u32 0, .int .u32 0, .int .u32 0, .int .u32 0, .int .u32 0, .int .u32 0, .int .u32 0, .int .u32 0, .int .u32 0, .int .u32 0, .int .u32 0, .int .u32 0, .int .u32 0, .int .u32 0, .int .u32 0, .int .u32 0, .int .u32 0, .int .u32 0, .int .u32 0, .int .u32 0] = Evt.cells ⟨k, 0, 0, 0, 0, 0, Rg.zero, Kp.zero⟩ := by
  simp [Evt.cells, Rg.zero, Kp.zero, Kp.l, wds]
theorem flat_get {α : Type} (f : α → List AV) (n : Nat) (l : List α) (hf : ∀ x, (f x).length = n) (k : Nat) (hk : k < l.length) (j : Nat) (hj : j < n) : (l.flatMap f)[k * n + j]? = (f l[k])[j]? := by
  have h1 := flat_drop f n l (fun x _ => hf x) k (by omega)
  rw [List.drop_eq_getElem_cons hk, List.flatMap_cons] at h1
  rw [← List.getElem?_drop, h1, List.getElem?_append_left (by rw [hf]; exact hj)]
theorem rWrite_spec (l : List Evt) (hl : l.length ≤ 100000000) : Spec Try.prog G 30 [evts l] h (Is (.tup [byt (writeB l), .int .i64 (writeE l)]) h) := by
  refine Spec.weak (Q := fun r h' => ∃ v h1, r = .tup [v, .int .i64 (writeE l)] ∧ Own 1 h v (bys (writeB l)) (writeB l).length h1 ∧ Sub h1 h') ?_ ?_
  · refine Spec.walk C30ok rfl ?_
    simp only [push_cast, simprocAttr, evts]
    refine ⟨fun h1 => ?_, fun h1 => ?_⟩
    · have h1 : l.length > 4096 := by omega
      exact ⟨.nils, h, by simp [writeE, h1], by simp only [writeB, h1, if_true]; exact .nil, .refl _⟩
    · have h1 : ¬ l.length > 4096 := by omega
      intro b hb b6 hb6
      have hb' := upd_none hb6
      simp only [push_cast, simprocAttr, zero_evt]
      refine lpc.rel [0, 4, 5, 6, 7] (fun m ρ h' => ∃ (k : Nat) (bs : List (BitVec 8)) (t : BitVec 64) (last : Evt) (v : AV), m = l.length - k ∧ k ≤ l.length ∧ bs.length ≤ 200 * k ∧ OB (upd h b6 ⟨last.cells, 0⟩) v bs h' ∧ writeM l = (wr (l.drop k) ⟨t, last.regs, last.csrs⟩).map (bs ++ ·) ∧
        ρ = [(0, .ro (List.flatMap Evt.cells l) l.length), (4, v), (5, .int .u64 t.toNat), (6, .ptr b6 0), (7, .int .i64 k)]) ⟨_, 0, [], 0, Evt.zero, .sl b 0 0 0, rfl, by omega, by simp, ?_, by simp [writeM]; rfl, rfl⟩ ?_
      · have := Own.row (sz := 1) (g := upd h b6 ⟨Evt.zero.cells, 0⟩) b 0 0 [] [] 0 (by rw [upd_ne hb'.1.symm]; exact hb) rfl (by omega)
        rw [upd_comm hb'.1] at this
        exact this
      · rintro m _ h2 ⟨k, bs, t, last, v, rfl, hk, hbl, ho, hwr, rfl⟩
        have hb2 := ho.get (upd_same _ _ _)
        simp only [push_cast, simprocAttr, hb2]
        refine ⟨fun hk2 => ?_, fun hk2 => ?_⟩
        · have e1 := flat_part Evt.cells 45 l (fun e _ => e.len) k hk2
          have hd : l.drop k = l[k] :: l.drop (k + 1) := List.drop_eq_getElem_cons hk2
          have hwl := evB_len l[k] ⟨t, last.regs, last.csrs⟩
          have e2 := flat_get Evt.cells 45 l Evt.len k hk2 1 (by omega)
          have e3 := flat_get Evt.cells 45 l Evt.len k hk2 0 (by omega)
          rw [hd] at hwr
          generalize l[k] = e at *
          rw [Evt.c1] at e2
          rw [Evt.c0, Nat.add_zero] at e3
          simp only [push_cast, simprocAttr, hk2, e1, e2, e3]
          refine (rRight_spec e).to ?_
          cases hr : e.right with
          | false =>
            simp only [push_cast, simprocAttr]
            have hn : writeM l = none := by rw [hwr]; simp [wr, hr]
            exact ⟨.nils, h, by simp [writeE, h1, hn], by simp only [writeB, h1, if_false, hn]; exact .nil, ((Sub.refl h).alloc hb'.2).trans (Own.sub ho)⟩
          | true =>
            simp only [push_cast, simprocAttr, hb2, hk2, e1, e2, e3]
            refine ⟨fun ht => ?_, fun ht => ?_⟩
            · have hn : writeM l = none := by rw [hwr]; simp [wr, hr]; omega
              exact ⟨.nils, h, by simp [writeE, h1, hn], by simp only [writeB, h1, if_false, hn]; exact .nil, ((Sub.refl h).alloc hb'.2).trans (Own.sub ho)⟩
            · refine (rEvent_spec e last t).to ?_
              simp only [push_cast, simprocAttr, hb2, byt]
              refine ho.app rfl (by omega) fun v3 h3 ho3 => ?_
              have hb3 := Own.get ho3 (upd_same _ _ _)
              simp (disch := omega) only [push_cast, simprocAttr, wrap_i64, toNat_ofInt64, Nat.min_eq_left, Int.toNat_of_nonneg, hk2, e1, e2, e3, hb3]
              have hwn : writeM l = (wr (l.drop (k + 1)) (evP e ⟨t, last.regs, last.csrs⟩)).map (bs ++ evB e ⟨t, last.regs, last.csrs⟩ ++ ·) := by
                rw [hwr]
                simp only [wr, hr, true_and]
                rw [if_pos (by omega), Option.map_map]
                congr 1
                funext x
                simp
              have hk13 : e.kind = 1 ∨ e.kind = 2 ∨ e.kind = 3 := by
                simp only [Evt.right] at hr
                split at hr
                · exact .inl ‹_›
                · split at hr
                  · exact .inr (.inl ‹_›)
                  · split at hr
                    · exact .inr (.inr ‹_›)
                    · cases hr
              refine ⟨fun hk2 => ?_, fun hk2 => ?_⟩
              · rw [splice_all' (by rw [Evt.len, Evt.len])]
                have ho5 := Own.upd ho3 (b := b6) (x := ⟨e.cells, 0⟩) (.inr ⟨_, upd_same _ _ _⟩)
                rw [upd_upd] at ho5
                refine ⟨_, _, by omega, .refl _, k + 1, bs ++ evB e ⟨t, last.regs, last.csrs⟩, e.tick, e, v3, rfl, by omega, by simp only [List.length_append]; omega, ho5, ?_, rfl⟩
                rw [hwn]
                simp [evP, hk2]
              · refine ⟨_, _, by omega, .refl _, k + 1, bs ++ evB e ⟨t, last.regs, last.csrs⟩, e.tick, last, v3, rfl, by omega, by simp only [List.length_append]; omega, ho3, ?_, rfl⟩
                rw [hwn]
                have : e.kind = 1 ∨ e.kind = 3 := by omega
                rcases this with h | h <;> simp [evP, h]
        · obtain rfl : k = l.length := by omega
          have hn : writeM l = some bs := by rw [hwr]; simp [wr]
          obtain ⟨h4, hs4, ho4⟩ := Own.drop ho hb'.2
          exact ⟨v, h4, by simp [writeE, h1, hn], by simpa [writeB, h1, hn] using ho4, hs4⟩
  · rintro r h' ⟨v, h1, rfl, ho, hs⟩
    exact ⟨_, _, ⟨rfl, rfl⟩, Le.sub hs (Le.tup1 ho.freeze)⟩
end Go.Ab
