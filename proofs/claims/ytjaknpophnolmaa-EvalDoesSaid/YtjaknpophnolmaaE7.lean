/- A block that is being done: its exits. -/
import Derived.Test.YtjaknpophnolmaaE6
set_option linter.unusedSimpArgs false
set_option linter.unusedVariables false
set_option maxRecDepth 10000
namespace Go.Ab
open Go.Proofs
variable {G : Glo} {h : Heap}
/-- What is behind a block, as it is laid. -/
def outC (regs : List (BitVec 32)) (pc : BitVec 32) (done why exit : Int) : List AV := wds regs ++ [.int .u32 pc.toNat, .int .i64 done, .int .i64 why, .int .i64 exit]
section
variable {regs : List (BitVec 32)} {pc : BitVec 32} {done why exit : Int}
theorem oc_len (hl : regs.length = 32) : (outC regs pc done why exit).length = 36 := by simp [outC, hl, wds]
theorem oc_set (hl : regs.length = 32) (i : Nat) (hi : i < 32) (w : BitVec 32) : (outC regs pc done why exit).set i (.int .u32 w.toNat) = outC (regs.set i w) pc done why exit := by
  rw [outC, List.set_append_left _ _ (by simp [wds]; omega)]
  simp [outC, wds, List.map_set]
theorem oc_pc (hl : regs.length = 32) (w : BitVec 32) : (outC regs pc done why exit).set 32 (.int .u32 w.toNat) = outC regs w done why exit := by
  rw [outC, List.set_append_right _ _ (by simp [wds]; omega)]
  simp [outC, wds, hl]
theorem oc_all (hl : regs.length = 32) : partOf (outC regs pc done why exit) 0 (some 36) = some (.agg (outC regs pc done why exit)) := partOf_all (oc_len hl)
theorem oc_put (hl : regs.length = 32) (Z : List AV) (hz : Z.length = 36) : splice Z 0 (outC regs pc done why exit) = outC regs pc done why exit := splice_all' (by rw [oc_len hl, hz])
def Z36 : List AV := [.int .u32 0, .int .u32 0, .int .u32 0, .int .u32 0, .int .u32 0, .int .u32 0, .int .u32 0, .int .u32 0, .int .u32 0, .int .u32 0, .int .u32 0, .int .u32 0, .int .u32 0, .int .u32 0, .int .u32 0, .int .u32 0, .int .u32 0, .int .u32 0, .int .u32 0, .int .u32 0, .int .u32 0, .int .u32 0, .int .u32 0, .int .u32 0, .int .u32 0, .int .u32 0, .int .u32 0, .int .u32 0, .int .u32 0, .int .u32 0, .int .u32 0, .int .u32 0, .int .u32 0, .int .i64 0, .int .i64 0, .int .i64 0]
theorem oc_z (hl : regs.length = 32) : splice [.int .u32 0, .int .u32 0, .int .u32 0, .int .u32 0, .int .u32 0, .int .u32 0, .int .u32 0, .int .u32 0, .int .u32 0, .int .u32 0, .int .u32 0, .int .u32 0, .int .u32 0, .int .u32 0, .int .u32 0, .int .u32 0, .int .u32 0, .int .u32 0, .int .u32 0, .int .u32 0, .int .u32 0, .int .u32 0, .int .u32 0, .int .u32 0, .int .u32 0, .int .u32 0, .int .u32 0, .int .u32 0, .int .u32 0, .int .u32 0, .int .u32 0, .int .u32 0, .int .u32 0, .int .i64 0, .int .i64 0, .int .i64 0] 0 (wds regs) = outC regs 0#32 0 0 0 := by
  have hw : (wds regs).length = 32 := by simp [wds, hl]
  rw [splice_ne (by omega), List.take_zero, List.nil_append, Nat.zero_add, hw]
  rfl
theorem oc_put36 (hl : regs.length = 32) : splice [.int .u32 0, .int .u32 0, .int .u32 0, .int .u32 0, .int .u32 0, .int .u32 0, .int .u32 0, .int .u32 0, .int .u32 0, .int .u32 0, .int .u32 0, .int .u32 0, .int .u32 0, .int .u32 0, .int .u32 0, .int .u32 0, .int .u32 0, .int .u32 0, .int .u32 0, .int .u32 0, .int .u32 0, .int .u32 0, .int .u32 0, .int .u32 0, .int .u32 0, .int .u32 0, .int .u32 0, .int .u32 0, .int .u32 0, .int .u32 0, .int .u32 0, .int .u32 0, .int .u32 0, .int .i64 0, .int .i64 0, .int .i64 0] 0 (outC regs pc done why exit) = outC regs pc done why exit := oc_put hl _ rfl
theorem oc_33 (hl : regs.length = 32) (d : Int) : (outC regs pc done why exit).set 33 (.int .i64 d) = outC regs pc d why exit := by
  rw [outC, List.set_append_right _ _ (by simp [wds]; omega)]
  simp [outC, wds, hl]
theorem oc_34 (hl : regs.length = 32) (d : Int) : (outC regs pc done why exit).set 34 (.int .i64 d) = outC regs pc done d exit := by
  rw [outC, List.set_append_right _ _ (by simp [wds]; omega)]
  simp [outC, wds, hl]
theorem oc_35 (hl : regs.length = 32) (d : Int) : (outC regs pc done why exit).set 35 (.int .i64 d) = outC regs pc done why d := by
  rw [outC, List.set_append_right _ _ (by simp [wds]; omega)]
  simp [outC, wds, hl]
end
def foldR (vals : List (BitVec 32)) (m : List IVl) (regs : List (BitVec 32)) : List (BitVec 32) := m.foldl (fun r v => r.set v.reg.toNat (lv vals v.val)) regs
theorem foldR_len (vals m regs) : (foldR vals m regs).length = regs.length := by
  unfold foldR
  induction m generalizing regs with
  | nil => rfl
  | cons v m ih => simp [List.foldl_cons, ih]
theorem foldR_take (vals : List (BitVec 32)) (m : List IVl) (regs : List (BitVec 32)) (k : Nat) (hk : k < m.length) : foldR vals (m.take (k + 1)) regs = (foldR vals (m.take k) regs).set (m.getD k IVl.zero).reg.toNat (lv vals (m.getD k IVl.zero).val) := by
  unfold foldR
  rw [List.take_add_one, List.getElem?_eq_getElem hk, List.foldl_append]
  simp [hk]
def leaveR (e : IEx) (regs vals : List (BitVec 32)) : List (BitVec 32) := foldR vals e.map regs
def leaveP (e : IEx) (vals : List (BitVec 32)) : BitVec 32 := if e.to = -1 then e.pc else lv vals e.to
/-- What is right of an exit that is taken. -/
def okEx (e : IEx) (n : Nat) : Prop := (∀ i, i < e.map.length → (0 ≤ (e.vl i).val ∧ (e.vl i).val < n) ∧ 0 ≤ (e.vl i).reg ∧ (e.vl i).reg ≤ 31) ∧ (e.to = -1 ∨ 0 ≤ e.to ∧ e.to < n)
section
variable {H h0 : Heap} {l : Pl} {M : IRam} {pf : Nat} {b : IBk} {regs vals : List (BitVec 32)} {vv : AV}
theorem leave_spec (hf : FAt H h0 l M pf b regs vv vals) (n : Int) (h1 : 0 ≤ n) (h2 : n < b.exits.length) (hm : (b.ex n.toNat).map.length ≤ 1000) (he : okEx (b.ex n.toNat) vals.length) :
    Spec Try.prog G 36 [.ptr pf 0, .int .i64 n] H
    (Is (.agg (outC (leaveR (b.ex n.toNat) regs vals) (leaveP (b.ex n.toNat) vals) (b.ex n.toNat).done (b.ex n.toNat).why n)) H) := by
  have hfr := hf.fr
  have hlen := hf.len
  have e34 := fc_34 (b := b) (p := l.p) (vv := vv) hlen
  have e0 : (fcells b regs l.p vv)[0]? = some (bkP b) := rfl
  have er := fc_regs (b := b) (p := l.p) (vv := vv) hlen
  have hx : (b.exits.getD n.toNat IEx.zero) = b.ex n.toNat := rfl
  generalize b.ex n.toNat = e at *
  refine Spec.is C36ok rfl ?_
  simp only [push_cast, simprocAttr, hfr, e0]
  intro c4 hc4
  have n4 : c4 ≠ pf := fun e => by rw [e, hfr] at hc4; cases hc4
  obtain ⟨H4, hH4⟩ : ∃ H4, upd H c4 ⟨[.int .u32 0, .int .u32 0, .int .u32 0, .int .u32 0, .int .u32 0, .int .u32 0, .int .u32 0, .int .u32 0, .int .u32 0, .int .u32 0, .int .u32 0, .int .u32 0, .int .u32 0, .int .u32 0, .int .u32 0, .int .u32 0, .int .u32 0, .int .u32 0, .int .u32 0, .int .u32 0, .int .u32 0, .int .u32 0, .int .u32 0, .int .u32 0, .int .u32 0, .int .u32 0, .int .u32 0, .int .u32 0, .int .u32 0, .int .u32 0, .int .u32 0, .int .u32 0, .int .u32 0, .int .i64 0, .int .i64 0, .int .i64 0], 0⟩ = H4 := ⟨_, rfl⟩
  have p4 : H4 pf = some ⟨fcells b regs l.p vv, 0⟩ := by rw [← hH4, upd_ne (Ne.symm n4)]; exact hfr
  have z4 : ∃ Z : List AV, Z.length = 36 ∧ H4 c4 = some ⟨Z, 0⟩ := ⟨_, rfl, by rw [← hH4, upd_same]⟩
  have s4 : ∀ d, d ≠ c4 → H4 d = H d := fun d hd => by rw [← hH4, upd_ne hd]
  rw [hH4]
  clear hH4
  obtain ⟨Z, hZ, z4⟩ := z4
  simp only [push_cast, simprocAttr, p4, e0]
  refine ⟨⟨h1, h2⟩, by omega, fun c5 hc5 => ?_⟩
  rw [hx]
  rw [era_none hc5]
  have hA : hlen = hlen := rfl
  simp only [push_cast, simprocAttr, p4, e0, er, oc_z hlen, oc_pc hlen, oc_33 hlen, oc_34 hlen, oc_35 hlen, oc_len hlen, hlen]
  intro c6 hc6
  have n6 : c6 ≠ pf := fun e => by rw [e, p4] at hc6; cases hc6
  have n64 : c6 ≠ c4 := fun e => by rw [e, z4] at hc6; cases hc6
  refine ⟨by rw [upd_ne (Ne.symm n6), p4]; exact er, ?_⟩
  have hsub : ∀ (c4 : Nat), H c4 = none → ∀ (H6 : Heap), (∀ c, H c ≠ none → H6 c = H c) → ∀ X, Sub H (upd H6 c4 X) := by
    intro c4 hc4 H6 s6 X d x hd
    have d4 : d ≠ c4 := fun e => by rw [e, hc4] at hd; cases hd
    rw [upd_ne d4, s6 d (by rw [hd]; simp), hd]
  have hmap : ∀ i, i < e.map.length → (0 ≤ (e.map.getD i IVl.zero).val ∧ (e.map.getD i IVl.zero).val < vals.length) ∧ 0 ≤ (e.map.getD i IVl.zero).reg ∧ (e.map.getD i IVl.zero).reg ≤ 31 := he.1
  refine lpc.rel [0, 4, 5, 6, 32, 33, 34] (fun m ρ h' => ∃ k, m = e.map.length - k ∧ k ≤ e.map.length ∧ upd H4 c6 ⟨outC (foldR vals (e.map.take k) regs) e.pc e.done e.why n, 0⟩ = h' ∧
    ρ = [(0, .ptr pf 0), (4, .ptr c4 0), (5, .cp e.cells 0), (6, .ptr c6 0), (32, vls e.map), (33, .int .i64 (e.map.length : Int)), (34, .int .i64 (k : Int))]) ⟨_, 0, rfl, by omega, rfl, rfl⟩ ?_
  rintro m _ _ ⟨k, rfl, hk, rfl, rfl⟩
  have hlen2 : (foldR vals (e.map.take k) regs).length = 32 := by rw [foldR_len, hlen]
  obtain ⟨R, hR⟩ : ∃ R, foldR vals (e.map.take k) regs = R := ⟨_, rfl⟩
  rw [hR] at hlen2 ⊢
  have q6 : (upd H4 c6 ⟨outC R e.pc e.done e.why n, 0⟩) pf = some ⟨fcells b regs l.p vv, 0⟩ := by rw [upd_ne (Ne.symm n6), p4]
  have r6 := upd_same H4 c6 ⟨outC R e.pc e.done e.why n, 0⟩
  have s6 : ∀ c, H c ≠ none → (upd H4 c6 ⟨outC R e.pc e.done e.why n, 0⟩) c = H c := by
    intro c hc
    have d4 : c ≠ c4 := fun e => by rw [e, hc4] at hc; exact hc rfl
    have d6 : c ≠ c6 := fun e => by rw [s4 c6 n64, ← e] at hc6; exact hc hc6
    rw [upd_ne d6, s4 c d4]
  have u6 : ∀ X, upd (upd H4 c6 ⟨outC R e.pc e.done e.why n, 0⟩) c6 X = upd H4 c6 X := fun X => upd_upd _ _ _ _
  have y4 : (upd H4 c6 ⟨outC R e.pc e.done e.why n, 0⟩) c4 = some ⟨Z, 0⟩ := by rw [upd_ne (Ne.symm n64), z4]
  generalize upd H4 c6 ⟨outC R e.pc e.done e.why n, 0⟩ = H6 at q6 r6 s6 u6 y4 ⊢
  simp only [push_cast, simprocAttr]
  refine ⟨fun hk2 => ?_, fun hk2 => ?_⟩
  · obtain ⟨⟨v1, v2⟩, w1, w2⟩ := hmap k hk2
    obtain ⟨c, pre, cap, sp, rfl, hc, hcp, hcl⟩ := hf.at (i := (e.map.getD k IVl.zero).val.toNat) (by omega)
    have hc6' := (s6 c (by rw [hc]; simp)).trans hc
    have e2 := row_get pre vals (e.map.getD k IVl.zero).val.toNat (by omega)
    have hT := foldR_take vals e.map regs k hk2
    rw [hR] at hT
    generalize e.map.getD k IVl.zero = v at *
    refine ⟨hk2, hk2, fun c8 hc8 => ?_⟩
    rw [era_none hc8]
    simp (disch := omega) only [push_cast, simprocAttr, wrap_i64, toNat_ofInt64, Nat.min_eq_left, Int.toNat_of_nonneg, q6, e34, hc6', e2]
    refine ⟨⟨v1, v2⟩, ⟨w1, by omega⟩, ?_⟩
    have d4 : c ≠ c4 := fun e => by rw [e, hc4] at hc; cases hc
    have d6 : c ≠ c6 := fun e => by rw [s4 c6 n64, ← e] at hc6; rw [hc6] at hc; cases hc
    have g1 : ∀ X, upd H4 c6 X pf = some ⟨fcells b regs l.p (.sl c pre.length vals.length cap), 0⟩ := fun X => by rw [upd_ne (Ne.symm n6), p4]
    have g2 : ∀ X, upd H4 c6 X c = some ⟨pre ++ wds vals, sp⟩ := fun X => by rw [upd_ne d6, s4 c d4, hc]
    have os := oc_set (pc := e.pc) (done := e.done) (why := e.why) (exit := n) hlen2 v.reg.toNat (by omega) (vals.getD v.val.toNat 0#32)
    have ol := oc_len (pc := e.pc) (done := e.done) (why := e.why) (exit := n) hlen2
    have hb : v.reg.toNat + 1 ≤ 36 := by omega
    simp (disch := omega) only [push_cast, simprocAttr, wrap_i64, toNat_ofInt64, Nat.min_eq_left, Int.toNat_of_nonneg, r6, os, ol, u6, g1, g2, e34, e2, hb]
    exact ⟨_, _, by omega, .refl _, k + 1, rfl, by omega, by rw [hT]; rfl, rfl⟩
  · obtain rfl : k = e.map.length := by omega
    rw [List.take_of_length_le (Nat.le_refl _)] at hR
    have hLR : leaveR e regs vals = R := hR
    rw [hLR]
    have g1 : ∀ X, upd H4 c6 X pf = some ⟨fcells b regs l.p vv, 0⟩ := fun X => by rw [upd_ne (Ne.symm n6), p4]
    have g4 : ∀ X, upd H4 c6 X c4 = some ⟨Z, 0⟩ := fun X => by rw [upd_ne (Ne.symm n64), z4]
    have g6 : ∀ X, upd H4 c6 X c6 = some X := fun X => upd_same _ _ _
    by_cases ht : e.to = -1
    · have hLP : leaveP e vals = e.pc := by rw [leaveP, if_pos ht]
      rw [hLP]
      simp only [push_cast, simprocAttr, ht, r6, y4, oc_all hlen2, oc_len hlen2, hZ]
      exact hsub _ hc4 _ s6 _
    · have hLP : leaveP e vals = lv vals e.to := by rw [leaveP, if_neg ht]
      rw [hLP]
      have ht' : (e.to = -1) = False := by simp [ht]
      obtain ⟨t1, t2⟩ := he.2.resolve_left ht
      obtain ⟨c, pre, cap, sp, rfl, hc, hcp, hcl⟩ := hf.at (i := e.to.toNat) (by omega)
      have hc6' := (s6 c (by rw [hc]; simp)).trans hc
      have e2 := row_get pre vals e.to.toNat (by omega)
      simp only [push_cast, simprocAttr, ht', r6, y4, q6, e34, hc6', e2]
      refine ⟨⟨t1, t2⟩, by rw [oc_len hlen2]; omega, ?_⟩
      have op := oc_pc (pc := e.pc) (done := e.done) (why := e.why) (exit := n) hlen2 (vals.getD e.to.toNat 0#32)
      simp only [push_cast, simprocAttr, op, u6, g4, oc_all hlen2, oc_len hlen2, hZ]
      refine ⟨rfl, hsub _ hc4 _ (fun d hd => ?_) _⟩
      have d4 : d ≠ c4 := fun e => by rw [e, hc4] at hd; exact hd rfl
      have d6 : d ≠ c6 := fun e => by rw [s4 c6 n64, ← e] at hc6; exact hd hc6
      rw [upd_ne d6, s4 d d4]
end
end Go.Ab
