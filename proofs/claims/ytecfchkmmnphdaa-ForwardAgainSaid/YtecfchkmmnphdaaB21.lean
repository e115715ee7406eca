/- What is forwarded is right, over lists alone. -/
import Derived.Test.YtecfchkmmnphdaaB20
import Derived.Test.YtecfchkmmnphdaaB8
set_option linter.unusedSimpArgs false
set_option linter.unusedVariables false
namespace Go.Ab
theorem vin_val {b : IBk} {n : Int} {j : Nat} (h : vin b.ops j n) : b.val n j = true := by
  obtain ⟨h1, h2, h3, h4, h5⟩ := h
  simp only [IBk.val, IBk.op, Bool.and_eq_true]
  exact ⟨⟨⟨⟨decide_eq_true h1, decide_eq_true h2⟩, decide_eq_true h3⟩, decide_eq_true h4⟩, decide_eq_true h5⟩
theorem vin_pre {l s : List IOp} {j : Nat} {n : Int} (h : vin l j n) : vin (l ++ s) j n := by
  obtain ⟨h1, h2, h3, h4⟩ := h
  exact ⟨h1, h2, by simp; omega, by rw [getD_lt (by omega)]; exact h4⟩
theorem fw_val {b : IBk} (hc : b.check = 0) {i : Nat} (hi : i ≤ b.ops.length) {n : Int} (h : vin b.ops i n) : vin (fwd b.ops).l (fwd (b.ops.take i)).l.length ((fwd b.ops).to.getD n.toNat 0) := by
  have hI := fwd_inv hc i hi
  obtain ⟨s, t, e1, e2⟩ := fwd_pre b.ops i
  obtain ⟨h1, h2, h3, h4⟩ := h
  rw [e1, e2, getD_lt (by rw [hI.to]; omega)]
  exact vin_pre (hI.vals n.toNat (by omega) h4)
theorem exit_fw {b : IBk} (hc : b.check = 0) {i : Nat} (hi : i ≤ b.ops.length) {x : Int} (h : b.exit x i = true) : b.fw.exit x ((fwd (b.ops.take i)).l.length : Nat) = true := by
  simp only [IBk.exit, Bool.and_eq_true, Bool.or_eq_true, decide_eq_true_eq] at h ⊢
  obtain ⟨⟨⟨h1, h2⟩, h3⟩, h4⟩ := h
  have hx : x.toNat < b.exits.length := by omega
  have he : b.fw.ex x.toNat = renE (fwd b.ops).to (b.ex x.toNat) := by
    simp [IBk.ex, IBk.fw, hx]
  rw [he]
  refine ⟨⟨⟨h1, by simpa [IBk.fw] using h2⟩, ?_⟩, ?_⟩
  · rcases h3 with h3 | h3
    · left; simp [renE, h3]
    · right
      have hv := val_vin h3
      have hne : (b.ex x.toNat).to ≠ -1 := by have := hv.1; omega
      have := fw_val hc hi hv
      simp only [renE, if_neg hne]
      exact vin_val (b := b.fw) this
  · refine allN_true fun k hk => ?_
    have hk2 : k < (b.ex x.toNat).map.length := by simpa [renE] using hk
    have := fw_val hc hi (val_vin (allN_get h4 k hk2))
    have e2 : (renE (fwd b.ops).to (b.ex x.toNat)).vl k = renV (fwd b.ops).to ((b.ex x.toNat).vl k) := by simp [IEx.vl, renE, hk2]
    rw [e2]
    exact vin_val (b := b.fw) this
theorem fw_opR {b : IBk} (hc : b.check = 0) {j : Nat} (hj : j < (fwd b.ops).l.length) : b.fw.opR j = true := by
  have hI := fwd_all hc
  have hsrc := fwd_src b.ops b.ops.length (Nat.le_refl _) j (by rw [List.take_length]; exact hj)
  rw [List.take_length] at hsrc
  obtain ⟨i, h1, h2, h3⟩ := hsrc
  have hr := (right_parts hc).1 i h1
  have hg := hI.good j hj
  have hex : ∀ x, b.exit x i = true → b.fw.exit x j = true := fun x hx => by have := exit_fw hc (by omega) hx; rw [h2] at this; exact this
  have hvv : ∀ n, vin (fwd b.ops).l j n → b.fw.val n j = true := fun n hn => vin_val (b := b.fw) hn
  rw [opR_eq b i rfl] at hr
  rw [opR_eq b.fw j (o := ren (fwd (b.ops.take i)).to (b.ops.getD i IOp.zero)) h3]
  rw [h3] at hg
  generalize b.ops.getD i IOp.zero = o at hr hg ⊢
  have hcode := ren_code (fwd (b.ops.take i)).to o
  generalize hto : (fwd (b.ops.take i)).to = to at hcode hg ⊢
  by_cases c1 : o.code = 1
  · have : ren to o = o := by unfold ren; rw [if_neg (by omega), if_neg (by omega)]
    rw [this]; rw [if_pos c1] at hr ⊢; exact hr
  · by_cases c2 : o.code = 2
    · have : ren to o = o := by unfold ren; rw [if_neg (by omega), if_neg (by omega)]
      rw [this]; rw [if_neg c1, if_pos c2] at hr ⊢; exact hr
    · by_cases c3 : o.code = 3
      · have hg1 := hg.1 (by omega)
        have q1 := hvv _ hg1.1
        have q2 := hvv _ hg1.2
        rw [if_neg (by omega), if_neg (by omega), if_pos (by omega)] at hr ⊢
        simp only [Bool.and_eq_true] at hr ⊢
        refine ⟨⟨⟨⟨?_, ?_⟩, ?_⟩, q1⟩, q2⟩
        · have : (ren to o).imm = o.imm := by unfold ren; rw [if_pos (by omega)]
          rw [this]; exact hr.1.1.1.1
        · have : (ren to o).x = o.x := by unfold ren; rw [if_pos (by omega)]
          rw [this]; exact hr.1.1.1.2
        · have : (ren to o).y = o.y := by unfold ren; rw [if_pos (by omega)]
          rw [this]; exact hr.1.1.2
      · by_cases c4 : o.code = 4
        · have q1 := hvv _ (hg.2 (by omega))
          have hro : ren to o = { o with a := to.getD o.a.toNat 0 } := by unfold ren; rw [if_neg (by omega), if_pos c4]
          rw [hro] at q1 ⊢
          simp only at q1 ⊢
          rw [if_neg (by omega), if_neg (by omega), if_neg (by omega), if_pos (by omega)] at hr ⊢
          simp only [Bool.and_eq_true] at hr ⊢
          exact ⟨⟨⟨⟨hr.1.1.1.1, hr.1.1.1.2⟩, hr.1.1.2⟩, q1⟩, hex _ hr.2⟩
        · by_cases c5 : o.code = 5
          · have hg1 := hg.1 (by omega)
            have q1 := hvv _ hg1.1
            have q2 := hvv _ hg1.2
            have hro : ren to o = { o with a := to.getD o.a.toNat 0, b := to.getD o.b.toNat 0 } := by unfold ren; rw [if_pos (by omega)]
            rw [hro] at q1 q2 ⊢
            simp only at q1 q2 ⊢
            rw [if_neg (by omega), if_neg (by omega), if_neg (by omega), if_neg (by omega), if_pos (by omega)] at hr ⊢
            simp only [Bool.and_eq_true] at hr ⊢
            exact ⟨⟨⟨⟨hr.1.1.1.1, q1⟩, q2⟩, hex _ hr.1.2⟩, hex _ hr.2⟩
          · by_cases c6 : o.code = 6
            · have hg1 := hg.1 (by omega)
              have q1 := hvv _ hg1.1
              have q2 := hvv _ hg1.2
              have hro : ren to o = { o with a := to.getD o.a.toNat 0, b := to.getD o.b.toNat 0 } := by unfold ren; rw [if_pos (by omega)]
              rw [hro] at q1 q2 ⊢
              simp only at q1 q2 ⊢
              rw [if_neg (by omega), if_neg (by omega), if_neg (by omega), if_neg (by omega), if_neg (by omega), if_pos (by omega)] at hr ⊢
              simp only [Bool.and_eq_true] at hr ⊢
              exact ⟨⟨⟨⟨⟨hr.1.1.1.1.1, hr.1.1.1.1.2⟩, hr.1.1.1.2⟩, q1⟩, q2⟩, hex _ hr.2⟩
            · rw [if_neg c1, if_neg c2, if_neg c3, if_neg c4, if_neg c5, if_neg c6] at hr; cases hr
theorem fw_check {b : IBk} (hc : b.check = 0) : b.fw.check = 0 := by
  have hll := fwd_l b.ops
  have hr : b.right = true ∧ b.long = false := by
    unfold IBk.check at hc
    split at hc
    · cases hc
    · rename_i h
      split at hc
      · exact ⟨by assumption, by simpa using h⟩
      · cases hc
  obtain ⟨hr, hlong⟩ := hr
  have hl2 : b.fw.long = false := by
    simp only [IBk.long, Bool.or_eq_false_iff, decide_eq_false_iff_not] at hlong ⊢
    simp only [IBk.fw, List.length_map]
    omega
  simp only [IBk.right, Bool.and_eq_true, decide_eq_true_eq] at hr
  obtain ⟨⟨⟨⟨r1, r2⟩, r3⟩, r4⟩, r5⟩ := hr
  have hexit : ∀ x, b.exit x b.ops.length = true → b.fw.exit x b.fw.ops.length = true := fun x hx => by
    have := exit_fw hc (Nat.le_refl _) hx
    rw [List.take_length] at this
    exact this
  have hright : b.fw.right = true := by
    simp only [IBk.right, Bool.and_eq_true, decide_eq_true_eq]
    refine ⟨⟨⟨⟨allN_true fun j hj => fw_opR hc hj, allN_true fun n hn => ?_⟩, r3⟩, r4⟩, hexit _ r5⟩
    have hn2 : n < b.exits.length := by simpa [IBk.fw] using hn
    have hl := allN_get r2 n hn2
    rw [leaves_eq, headN, Bool.and_eq_true] at hl ⊢
    simp only [Bool.and_eq_true] at hl ⊢
    obtain ⟨⟨⟨⟨⟨⟨q1, q2⟩, q3⟩, q4⟩, q5⟩, q6⟩, q7⟩ := hl
    have he : b.fw.ex n = renE (fwd b.ops).to (b.ex n) := by simp [IBk.ex, IBk.fw, hn2]
    rw [he]
    refine ⟨⟨⟨⟨⟨⟨hexit _ q1, q2⟩, q3⟩, q4⟩, q5⟩, q6⟩, allN_true fun k hk => ?_⟩
    have hk2 : k < (b.ex n).map.length := by simpa [renE] using hk
    have := allN_get q7 k hk2
    have ev : ∀ k, k < (b.ex n).map.length → ((renE (fwd b.ops).to (b.ex n)).vl k).reg = ((b.ex n).vl k).reg := fun k hk => by simp [IEx.vl, renE, renV, hk]
    rw [regN, ev _ hk2]
    by_cases h0 : k = 0
    · subst h0; simpa [regN] using this
    · rw [ev _ (by omega)]; exact this
  rw [IBk.check, hl2, if_neg (by simp), if_pos hright]
theorem fw_wf {b : IBk} (hw : b.wf) : b.fw.wf := by
  have hll := fwd_l b.ops
  have hm : ∀ e ∈ b.fw.exits, ∃ e' ∈ b.exits, e.map.length = e'.map.length := by
    intro e he
    simp only [IBk.fw, List.mem_map] at he
    obtain ⟨e', h1, rfl⟩ := he
    exact ⟨e', h1, by simp [renE]⟩
  obtain ⟨hp, ho, he, h4, hq, hs1, hs2, hs3⟩ := hw
  have e1 : b.fw.ops.length ≤ b.ops.length := hll
  have e2 : b.fw.exits.length = b.exits.length := by simp [IBk.fw]
  exact ⟨hp, by omega, by omega, fun e h => by obtain ⟨e', h1, h2⟩ := hm e h; rw [h2]; exact h4 e' h1, hq, by omega, by omega, fun e h => by obtain ⟨e', h1, h2⟩ := hm e h; rw [h2]; exact hs3 e' h1⟩
end Go.Ab
