/- The document's answer for a block, done: an exit, taken. -/
import Derived.Test.YtjaknpophnolmaaE17
import Derived.Test.YtjaknpophnolmaaE14
set_option linter.unusedSimpArgs false
set_option linter.unusedVariables false
set_option maxRecDepth 10000
namespace Go.Ab
open Go.Proofs
variable {G : Glo} {h : Heap}
def VV (H : Heap) (vv : AV) (vals : List (BitVec 32)) : Prop := ∃ c pre cap sp, vv = .sl c (List.length pre) vals.length cap ∧ H c = some ⟨pre ++ wds vals, sp⟩
def oT (regs : List (BitVec 32)) (pc : BitVec 32) (done why exit : Int) (T : List AV) : List AV := outC regs pc done why exit ++ T
section
variable {regs : List (BitVec 32)} {pc : BitVec 32} {done why exit : Int} {T : List AV}
theorem oT_len (hl : regs.length = 32) (ht : T.length = 3) : (oT regs pc done why exit T).length = 39 := by simp [oT, oc_len hl, ht]
theorem oT_z (hl : regs.length = 32) : splice [.int .u32 0, .int .u32 0, .int .u32 0, .int .u32 0, .int .u32 0, .int .u32 0, .int .u32 0, .int .u32 0, .int .u32 0, .int .u32 0, .int .u32 0, .int .u32 0, .int .u32 0, .int .u32 0, .int .u32 0, .int .u32 0, .int .u32 0, .int .u32 0, .int .u32 0, .int .u32 0, .int .u32 0, .int .u32 0, .int .u32 0, .int .u32 0, .int .u32 0, .int .u32 0, .int .u32 0, .int .u32 0, .int .u32 0, .int .u32 0, .int .u32 0, .int .u32 0, .int .u32 0, .int .i64 0, .int .i64 0, .int .i64 0, .nils, .nils, .nils] 0 (wds regs) = oT regs 0 0 0 0 [.nils, .nils, .nils] := by
  have hw : (wds regs).length = 32 := by simp [wds, hl]
  rw [splice_ne (by omega), List.take_zero, List.nil_append, Nat.zero_add, hw, oT, outC, List.append_assoc]
  rfl
theorem oT_set (hl : regs.length = 32) (i : Nat) (hi : i < 32) (w : BitVec 32) : (oT regs pc done why exit T).set i (.int .u32 w.toNat) = oT (regs.set i w) pc done why exit T := by
  rw [oT, List.set_append_left _ _ (by rw [oc_len hl]; omega), oc_set hl i hi]; rfl
theorem oT_32 (hl : regs.length = 32) (w : BitVec 32) : (oT regs pc done why exit T).set 32 (.int .u32 w.toNat) = oT regs w done why exit T := by
  rw [oT, List.set_append_left _ _ (by rw [oc_len hl]; omega), oc_pc hl]; rfl
theorem oT_33 (hl : regs.length = 32) (d : Int) : (oT regs pc done why exit T).set 33 (.int .i64 d) = oT regs pc d why exit T := by
  rw [oT, List.set_append_left _ _ (by rw [oc_len hl]; omega), oc_33 hl]; rfl
theorem oT_34 (hl : regs.length = 32) (d : Int) : (oT regs pc done why exit T).set 34 (.int .i64 d) = oT regs pc done d exit T := by
  rw [oT, List.set_append_left _ _ (by rw [oc_len hl]; omega), oc_34 hl]; rfl
theorem oT_35 (hl : regs.length = 32) (d : Int) : (oT regs pc done why exit T).set 35 (.int .i64 d) = oT regs pc done why d T := by
  rw [oT, List.set_append_left _ _ (by rw [oc_len hl]; omega), oc_35 hl]; rfl
theorem oT_36 (hl : regs.length = 32) (ht : T.length = 3) (U : List AV) (hu : U.length = 3) : splice (oT regs pc done why exit T) 36 U = oT regs pc done why exit U := by
  rw [splice_ne (by omega), oT, hu, List.take_append_of_le_length (by rw [oc_len hl]; omega), List.take_of_length_le (by rw [oc_len hl]; omega), List.drop_of_length_le (by simp [oc_len hl, ht])]
  simp [oT]
theorem oT_all (hl : regs.length = 32) (ht : T.length = 3) : partOf (oT regs pc done why exit T) 0 (some 39) = some (.agg (oT regs pc done why exit T)) := partOf_all (oT_len hl ht)
theorem oT_put (hl : regs.length = 32) (ht : T.length = 3) (Z : List AV) (hz : Z.length = 39) : splice Z 0 (oT regs pc done why exit T) = oT regs pc done why exit T := splice_all' (by rw [oT_len hl ht, hz])
theorem oT_put39 (hl : regs.length = 32) (ht : T.length = 3) : splice [.int .u32 0, .int .u32 0, .int .u32 0, .int .u32 0, .int .u32 0, .int .u32 0, .int .u32 0, .int .u32 0, .int .u32 0, .int .u32 0, .int .u32 0, .int .u32 0, .int .u32 0, .int .u32 0, .int .u32 0, .int .u32 0, .int .u32 0, .int .u32 0, .int .u32 0, .int .u32 0, .int .u32 0, .int .u32 0, .int .u32 0, .int .u32 0, .int .u32 0, .int .u32 0, .int .u32 0, .int .u32 0, .int .u32 0, .int .u32 0, .int .u32 0, .int .u32 0, .int .u32 0, .int .i64 0, .int .i64 0, .int .i64 0, .nils, .nils, .nils] 0 (oT regs pc done why exit T) = oT regs pc done why exit T := splice_all' (by rw [oT_len hl ht]; rfl)
end
def rOut (regs : List (BitVec 32)) (pc : BitVec 32) (done why exit : Int) (M : IRam) : List AV := oT regs pc done why exit M.cells
theorem rleave_spec {H : Heap} {vv : AV} {vals regs : List (BitVec 32)} {M : IRam} (b : IBk) (hv : VV H vv vals) (hlen : regs.length = 32) (n : Int) (h1 : 0 ≤ n) (h2 : n < b.exits.length) (hm : (b.ex n.toNat).map.length ≤ 1000) (he : okEx (b.ex n.toNat) vals.length) :
    Spec Try.prog G 41 [.agg b.cells, .int .i64 n, .agg (wds regs), vv, ramV M] H
    (Is (.agg (rOut (leaveR (b.ex n.toNat) regs vals) (leaveP (b.ex n.toNat) vals) (b.ex n.toNat).done (b.ex n.toNat).why n M)) H) := by
  obtain ⟨c, pre, cap, sp, rfl, hc⟩ := hv
  have hx : (b.exits.getD n.toNat IEx.zero) = b.ex n.toNat := rfl
  have hwl : (wds regs).length = 32 := by simp [wds, hlen]
  have hpa : partOf (wds regs) 0 (some 32) = some (.agg (wds regs)) := partOf_all hwl
  have rml : M.cells.length = 3 := rfl
  have rma : partOf M.cells 0 (some 3) = some (.agg M.cells) := partOf_all rml
  generalize b.ex n.toNat = e at *
  refine Spec.is C41ok rfl ?_
  simp only [push_cast, simprocAttr, hwl, rml]
  intro c10 hc10
  obtain ⟨H4, hH4⟩ : ∃ H4, upd H c10 ⟨[.int .u32 0, .int .u32 0, .int .u32 0, .int .u32 0, .int .u32 0, .int .u32 0, .int .u32 0, .int .u32 0, .int .u32 0, .int .u32 0, .int .u32 0, .int .u32 0, .int .u32 0, .int .u32 0, .int .u32 0, .int .u32 0, .int .u32 0, .int .u32 0, .int .u32 0, .int .u32 0, .int .u32 0, .int .u32 0, .int .u32 0, .int .u32 0, .int .u32 0, .int .u32 0, .int .u32 0, .int .u32 0, .int .u32 0, .int .u32 0, .int .u32 0, .int .u32 0, .int .u32 0, .int .i64 0, .int .i64 0, .int .i64 0, .nils, .nils, .nils], 0⟩ = H4 := ⟨_, rfl⟩
  have z4 : ∃ Z : List AV, Z.length = 39 ∧ H4 c10 = some ⟨Z, 0⟩ := ⟨_, rfl, by rw [← hH4, upd_same]⟩
  have n10 : c10 ≠ c := fun e => by rw [e, hc] at hc10; cases hc10
  have s4 : Sub H H4 := hH4 ▸ (Sub.refl H).alloc hc10
  have c4 : H4 c = some ⟨pre ++ wds vals, sp⟩ := s4 c _ hc
  rw [hH4]
  clear hH4
  obtain ⟨Z, hZ, z4⟩ := z4
  refine ⟨⟨h1, h2⟩, by omega, fun c11 hc11 => ?_⟩
  rw [hx, era_none hc11]
  have nl3 : [AV.nils, AV.nils, AV.nils].length = 3 := rfl
  simp only [push_cast, simprocAttr, hwl, rml, hpa, rma, oT_z hlen, oT_len hlen nl3, oT_32 hlen, oT_33 hlen, oT_34 hlen, oT_35 hlen, oT_36 hlen nl3, oT_len hlen rml, oT_put39 hlen rml]
  intro c12 hc12
  have n12 : c12 ≠ c := fun e => by rw [e, c4] at hc12; cases hc12
  have n1210 : c12 ≠ c10 := fun e => by rw [e, z4] at hc12; cases hc12
  have hmap : ∀ i, i < e.map.length → (0 ≤ (e.map.getD i IVl.zero).val ∧ (e.map.getD i IVl.zero).val < vals.length) ∧ 0 ≤ (e.map.getD i IVl.zero).reg ∧ (e.map.getD i IVl.zero).reg ≤ 31 := he.1
  have hsub : ∀ X Y, Sub H (upd (upd H4 c12 X) c10 Y) := fun X Y => (s4.alloc hc12).set hc10
  refine lpc.rel [3, 10, 11, 12, 13] (fun m ρ h' => ∃ k : Nat, m = e.map.length - k ∧ k ≤ e.map.length ∧ upd H4 c12 ⟨oT (foldR vals (e.map.take k) regs) e.pc e.done e.why n M.cells, 0⟩ = h' ∧
    ρ = [(3, .sl c (List.length pre) vals.length cap), (10, .ptr c10 0), (11, .cp e.cells 0), (12, .ptr c12 0), (13, .int .i64 (k : Int))]) ⟨_, 0, rfl, by omega, rfl, rfl⟩ ?_
  rintro m _ _ ⟨k, rfl, hk, rfl, rfl⟩
  have hlen2 : (foldR vals (e.map.take k) regs).length = 32 := by rw [foldR_len, hlen]
  obtain ⟨R, hR⟩ : ∃ R, foldR vals (e.map.take k) regs = R := ⟨_, rfl⟩
  rw [hR] at hlen2 ⊢
  have g1 : ∀ X, upd H4 c12 X c = some ⟨pre ++ wds vals, sp⟩ := fun X => by rw [upd_ne (Ne.symm n12), c4]
  have g2 : ∀ X, upd H4 c12 X c10 = some ⟨Z, 0⟩ := fun X => by rw [upd_ne (Ne.symm n1210), z4]
  have g3 : ∀ X, upd H4 c12 X c12 = some X := fun X => upd_same _ _ _
  have g4 : ∀ X Y, upd (upd H4 c12 X) c12 Y = upd H4 c12 Y := fun X Y => upd_upd _ _ _ _
  simp only [push_cast, simprocAttr]
  refine ⟨fun hk2 => ?_, fun hk2 => ?_⟩
  · obtain ⟨⟨v1, v2⟩, w1, w2⟩ := hmap k hk2
    have e2 := row_get pre vals (e.map.getD k IVl.zero).val.toNat (by omega)
    have hT := foldR_take vals e.map regs k hk2
    rw [hR] at hT
    generalize e.map.getD k IVl.zero = v at *
    have os := oT_set (pc := e.pc) (done := e.done) (why := e.why) (exit := n) (T := M.cells) hlen2 v.reg.toNat (by omega) (vals.getD v.val.toNat 0#32)
    have ol := oT_len (pc := e.pc) (done := e.done) (why := e.why) (exit := n) (T := M.cells) hlen2 rml
    simp (disch := omega) only [push_cast, simprocAttr, wrap_i64, toNat_ofInt64, Nat.min_eq_left, Int.toNat_of_nonneg, g1, g2, g3, g4, e2, os, ol]
    refine ⟨hk2, hk2, hk2, hk2, ⟨v1, v2⟩, ⟨w1, by omega⟩, by omega, ?_⟩
    exact ⟨_, _, by omega, .refl _, k + 1, rfl, by omega, by rw [hT]; rfl, rfl⟩
  · obtain rfl : k = e.map.length := by omega
    rw [List.take_of_length_le (Nat.le_refl _)] at hR
    have hLR : leaveR e regs vals = R := hR
    rw [hLR]
    by_cases ht : e.to = -1
    · have hLP : leaveP e vals = e.pc := by rw [leaveP, if_pos ht]
      rw [hLP]
      simp only [push_cast, simprocAttr, ht, g1, g2, g3, g4, oT_all hlen2 rml, oT_len hlen2 rml, hZ, oT_put hlen2 rml Z hZ]
      exact ⟨rfl, hsub _ _⟩
    · have hLP : leaveP e vals = lv vals e.to := by rw [leaveP, if_neg ht]
      rw [hLP]
      have ht' : (e.to = -1) = False := by simp [ht]
      obtain ⟨t1, t2⟩ := he.2.resolve_left ht
      have e2 := row_get pre vals e.to.toNat (by omega)
      have op := oT_32 (pc := e.pc) (done := e.done) (why := e.why) (exit := n) (T := M.cells) hlen2 (vals.getD e.to.toNat 0#32)
      simp only [push_cast, simprocAttr, ht', g1, g2, g3, g4, e2, op, oT_all hlen2 rml, oT_len hlen2 rml, hZ, oT_put hlen2 rml Z hZ]
      exact ⟨⟨t1, t2⟩, rfl, hsub _ _⟩
end Go.Ab
