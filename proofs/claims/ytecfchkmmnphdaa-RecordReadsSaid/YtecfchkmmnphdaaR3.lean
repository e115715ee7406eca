/- Contracts of package record: events, written. -/
import Derived.Test.YtecfchkmmnphdaaR2
set_option linter.unusedSimpArgs false
set_option linter.unusedVariables false
namespace Go.Ab
open Go.Proofs
variable {G : Glo} {h : Heap}
theorem kept_spec (k : Kp) : Spec Try.prog G 97 [.agg (wds k.l)] h (Is (.agg (wds k.l)) h) := by
  refine Spec.is C97ok rfl ?_
  simp only [push_cast, simprocAttr, Kp.l, wds, partOf_some]
  intro b hb
  exact (Sub.refl h).alloc hb
theorem trap1_spec {g b bs p} (hw : WrAt g b bs p h) (hl : bs.length ≤ 100000000) (m : BitVec 64) : Spec Try.prog G 99 [.int .u64 m.toNat, .cp [.ptr b 0] 0] h (fun _ h' => WrAt g b (bs ++ [BitVec.ofNat 8 m.toNat]) p h') := by
  obtain ⟨v, hb, ho⟩ := hw.get
  refine Spec.walk C99ok rfl ?_
  simp only [push_cast, simprocAttr, hb]
  refine ho.app (m := 1) rfl (by omega) (by omega) fun v' h2 ho2 => ?_
  have hb2 := ho2.get (upd_same _ _ _)
  simp only [push_cast, simprocAttr, ho2.one, hb2, hb]
  rw [BitVec.ofNat_toNat]
  exact WrAt.push hw.1 ho2
theorem trap_spec {g b bs p} (hw : WrAt g b bs p h) (hl : bs.length ≤ 1000000) (e : Evt) : Spec Try.prog G 76 [.ptr b 0, .agg e.cells] h (fun _ h' => WrAt g b (bs ++ trapB e p) ⟨p.tick, e.regs, e.csrs⟩ h') := by
  have n1 := num_32 e.cause
  have n2 := num_32 e.epc
  have n3 := num_32 e.tval
  refine Spec.walk C76ok rfl ?_
  simp only [push_cast, simprocAttr]
  refine lpc.rel [2, 3, 13, 14] (fun m ρ h' => ∃ k, m = 3 - k ∧ k ≤ 3 ∧ WrAt g b (bs ++ (([e.cause, e.epc, e.tval].take k).flatMap fun x => num x.toNat)) p h' ∧
    ρ = [(2, .cp [.ptr b 0] 0), (3, .cp e.cells 0), (13, .agg [.int .u32 e.cause.toNat, .int .u32 e.epc.toNat, .int .u32 e.tval.toNat]), (14, .int .i64 k)]) ⟨_, 0, rfl, by omega, by simpa using hw, rfl⟩ ?_
  rintro m _ h1 ⟨k, rfl, hk, hw1, rfl⟩
  simp only [push_cast, simprocAttr]
  refine ⟨fun hk2 => ?_, fun hk2 => ?_⟩
  · have hk3 : k = 0 ∨ k = 1 ∨ k = 2 := by omega
    rcases hk3 with rfl | rfl | rfl
    · simp only [push_cast, simprocAttr]
      refine (wnum_spec hw1 (by simp; omega) (BitVec.setWidth 64 e.cause)).mono ?_
      intro r h2 hw2
      rw [sw64] at hw2
      simp (disch := omega) only [push_cast, simprocAttr, wrap_i64, toNat_ofInt64, Nat.min_eq_left, Int.toNat_of_nonneg]
      exact ⟨_, _, by omega, .refl _, 1, rfl, by omega, by simpa using hw2, rfl⟩
    · simp only [push_cast, simprocAttr]
      refine (wnum_spec hw1 (by simp; omega) (BitVec.setWidth 64 e.epc)).mono ?_
      intro r h2 hw2
      rw [sw64] at hw2
      simp (disch := omega) only [push_cast, simprocAttr, wrap_i64, toNat_ofInt64, Nat.min_eq_left, Int.toNat_of_nonneg]
      exact ⟨_, _, by omega, .refl _, 2, rfl, by omega, by simpa using hw2, rfl⟩
    · simp only [push_cast, simprocAttr]
      refine (wnum_spec hw1 (by simp; omega) (BitVec.setWidth 64 e.tval)).mono ?_
      intro r h2 hw2
      rw [sw64] at hw2
      simp (disch := omega) only [push_cast, simprocAttr, wrap_i64, toNat_ofInt64, Nat.min_eq_left, Int.toNat_of_nonneg]
      exact ⟨_, _, by omega, .refl _, 3, rfl, by omega, by simpa using hw2, rfl⟩
  · obtain rfl : k = 3 := by omega
    simp only [List.take_succ_cons, List.take_zero, List.flatMap_cons, List.flatMap_nil, List.append_nil] at hw1
    refine (kept_spec e.csrs).to ?_
    simp only [push_cast, simprocAttr]
    intro b6 hb6
    simp only [push_cast, simprocAttr, hb6, era_none hb6]
    obtain ⟨v1, hb1, ho1⟩ := hw1.get
    have hm32 : ∀ m, m < 2 ^ 32 → (num m).length ≤ 10 := fun m hm => Nat.le_trans (num_len m 4 (by omega)) (by omega)
    have hmr := hm32 _ (by have := msk_lt e.regs.toList p.regs.toList; rwa [Vector.length_toList] at this)
    have hcr := chg_len e.regs.toList p.regs.toList
    rw [Vector.length_toList] at hcr
    refine (changed_spec' hw1 e.regs.toList p.regs.toList 32 2 32 75 [.ptr b 0] [] num (by simp) (by simp) (by omega) (by simp; omega) ?_ hm32 ⟨_, Try.func75, by kernel_rfl, by kernel_rfl⟩ ?_).mono ?_
    · intro v k hk
      rw [show 2 + k = (1 + k) + 1 by omega, List.getElem?_cons_succ]
      exact p.reg k (by simpa using hk)
    · intro h hw
      have h32 : msk e.regs.toList p.regs.toList < 2 ^ 32 := by have := msk_lt e.regs.toList p.regs.toList; rwa [Vector.length_toList] at this
      have e1 : (BitVec.ofNat 64 (msk e.regs.toList p.regs.toList)).toNat = msk e.regs.toList p.regs.toList := by rw [BitVec.toNat_ofNat, Nat.mod_eq_of_lt (by omega)]
      have := wnum_spec (G := G) hw (by simp; omega) (BitVec.ofNat 64 (msk e.regs.toList p.regs.toList))
      rw [e1] at this
      rw [e1]
      exact this
    · intro r h3 hw3
      simp only [push_cast, simprocAttr]
      refine (changed_spec' hw3 e.csrs.l p.kept.l 7 34 7 99 [] [.cp [.ptr b 0] 0] (fun m => [BitVec.ofNat 8 m]) rfl rfl (by omega) (by simp; omega) ?_ (by simp) ⟨_, Try.func99, by kernel_rfl, by kernel_rfl⟩ ?_).mono ?_
      · intro v k hk
        rw [show 34 + k = (33 + k) + 1 by omega, List.getElem?_cons_succ]
        exact p.kep k hk
      · intro h hw
        have h7 : msk e.csrs.l p.kept.l < 2 ^ 7 := msk_lt e.csrs.l p.kept.l
        have e1 : (BitVec.ofNat 64 (msk e.csrs.l p.kept.l)).toNat = msk e.csrs.l p.kept.l := by rw [BitVec.toNat_ofNat, Nat.mod_eq_of_lt (by omega)]
        have := trap1_spec (G := G) hw (by simp; omega) (BitVec.ofNat 64 (msk e.csrs.l p.kept.l))
        rw [e1] at this
        rw [e1]
        exact this
      · intro r4 h4 hw4
        obtain ⟨v4, hb4, ho4⟩ := hw4.get
        simp only [push_cast, simprocAttr, hb4, Past.set_regs, Past.set_kept, Past.len]
        have := WrAt.past (p' := ⟨p.tick, e.regs, e.csrs⟩) hw.1 ho4
        simpa [trapB, List.append_assoc] using this
theorem event_spec {g b bs p} (hw : WrAt g b bs p h) (hl : bs.length ≤ 900000) (e : Evt) : Spec Try.prog G 55 [.ptr b 0, .agg e.cells] h (fun _ h' => WrAt g b (bs ++ evB e p) (evP e p) h') := by
  obtain ⟨v, hb, ho⟩ := hw.get
  have n1 := num_64 (e.tick - p.tick)
  have n2 := num_32 e.value
  refine Spec.walk C55ok rfl ?_
  simp only [push_cast, simprocAttr, hb]
  refine ho.app (m := 1) rfl (by omega) (by omega) fun v' h2 ho2 => ?_
  have hb2 := ho2.get (upd_same _ _ _)
  simp only [push_cast, simprocAttr, ho2.one, hb2, hb]
  refine (wnum_spec (WrAt.push hw.1 ho2) (by simp; omega) (e.tick - p.tick)).mono ?_
  intro r3 h3 hw3
  obtain ⟨v3, hb3, ho3⟩ := hw3.get
  simp only [push_cast, simprocAttr, hb3, Past.set_tick]
  have ho4 := own_past (p' := ⟨e.tick, p.regs, p.kept⟩) ho3
  have hw4 : WrAt g b _ ⟨e.tick, p.regs, p.kept⟩ _ := ⟨hw.1, v3, ho4⟩
  have hb4 := ho4.get (upd_same _ _ _)
  refine ⟨fun hk => ?_, fun hk => ⟨fun hk3 => ?_, fun hk3 => ?_⟩⟩
  · refine ho4.app (m := 1) rfl (by simp only [List.length_append, List.length_cons, List.length_nil]; omega) (by simp only [List.length_append, List.length_cons, List.length_nil]; omega) fun v5 h5 ho5 => ?_
    have hb5 := ho5.get (upd_same _ _ _)
    simp only [push_cast, simprocAttr, ho5.one, hb5, hb4]
    have := WrAt.push hw.1 ho5
    simpa [evB, evP, hk] using this
  · have hk : ¬ e.kind = 1 := by omega
    refine (wnum_spec hw4 (by simp only [List.length_append, List.length_cons, List.length_nil]; omega) (BitVec.setWidth 64 e.value)).mono ?_
    intro r5 h5 hw5
    rw [sw64] at hw5
    simp only [push_cast, simprocAttr]
    simpa [evB, evP, hk3] using hw5
  · refine (trap_spec hw4 (by simp only [List.length_append, List.length_cons, List.length_nil]; omega) e).mono ?_
    intro r5 h5 hw5
    simp only [push_cast, simprocAttr]
    simpa [evB, evP, hk3, hk, trapB] using hw5
theorem bare_cells (e : Evt) : e.bare.cells = [.int .i64 e.kind, .int .u64 e.tick.toNat, .int .u32 e.value.toNat, .int .u32 0, .int .u32 0, .int .u32 0, .int .u32 0, .int .u32 0, .int .u32 0, .int .u32 0, .int .u32 0, .int .u32 0, .int .u32 0, .int .u32 0, .int .u32 0, .int .u32 0, .int .u32 0, .int .u32 0, .int .u32 0, .int .u32 0, .int .u32 0, .int .u32 0, .int .u32 0, .int .u32 0, .int .u32 0, .int .u32 0, .int .u32 0, .int .u32 0, .int .u32 0, .int .u32 0, .int .u32 0, .int .u32 0, .int .u32 0, .int .u32 0, .int .u32 0, .int .u32 0, .int .u32 0, .int .u32 0, .int .u32 0, .int .u32 0, .int .u32 0, .int .u32 0, .int .u32 0, .int .u32 0, .int .u32 0] := by
  simp [Evt.cells, Evt.bare, Rg.zero, Kp.zero, Kp.l, wds]
theorem Right_spec (e : Evt) : Spec Try.prog G 31 [.agg e.cells] h (Is (.bool e.right) h) := by
  refine Spec.is C31ok rfl ?_
  simp only [push_cast, simprocAttr, ← bare_cells, evt_eq]
  refine ⟨fun h1 => ?_, fun h1 => ⟨fun h2 => ?_, fun h2 => ⟨fun h3 => ?_, fun h3 => ?_⟩⟩⟩
  · have : decide ((e.value.toNat : Int) ≤ 255) = decide (e.value.toNat ≤ 255) := decide_eq_decide.2 (by omega)
    simp [Evt.right, h1, this]
  · have h0 : (e.value = 0#32) ↔ e.value.toNat = 0 := by rw [← BitVec.toNat_inj]; rfl
    have : ((e.value.toNat : Int) == 0) = decide (e.value = 0#32) := by rw [Bool.eq_iff_iff, beq_iff_eq, decide_eq_true_eq, h0]; omega
    simp [Evt.right, h2, this]
  · simp [Evt.right, h3]
  · simp [Evt.right, h1, h2, h3]
theorem zero_past : [AV.nils, .int .u64 0, .int .u32 0, .int .u32 0, .int .u32 0, .int .u32 0, .int .u32 0, .int .u32 0, .int .u32 0, .int .u32 0, .int .u32 0, .int .u32 0, .int .u32 0, .int .u32 0, .int .u32 0, .int .u32 0, .int .u32 0, .int .u32 0, .int .u32 0, .int .u32 0, .int .u32 0, .int .u32 0, .int .u32 0, .int .u32 0, .int .u32 0, .int .u32 0, .int .u32 0, .int .u32 0, .int .u32 0, .int .u32 0, .int .u32 0, .int .u32 0, .int .u32 0, .int .u32 0, .int .u32 0, .int .u32 0, .int .u32 0, .int .u32 0, .int .u32 0, .int .u32 0, .int .u32 0] = AV.nils :: Past.zero.cells := by
  simp [Past.cells, Past.zero, Rg.zero, Kp.zero, Kp.l, wds]
end Go.Ab
