/- What is forwarded stays when it is forwarded again, and is right, over lists alone. -/
import Derived.Test.YtecfchkmmnphdaaB19
set_option linter.unusedSimpArgs false
set_option linter.unusedVariables false
namespace Go.Ab
theorem leaf_parts {b : IBk} {k : Nat} (hk : b.leaves k = true) : ((b.exits.getD k IEx.zero).to = -1 ∨ vin b.ops b.ops.length (b.exits.getD k IEx.zero).to) ∧ ∀ v ∈ (b.exits.getD k IEx.zero).map, vin b.ops b.ops.length v.val := by
  rw [leaves_eq, headN] at hk
  simp only [Bool.and_eq_true] at hk
  have h1 := hk.1.1.1.1.1.1
  simp only [IBk.exit, Bool.and_eq_true, Bool.or_eq_true, decide_eq_true_eq, Int.toNat_natCast] at h1
  obtain ⟨⟨⟨_, _⟩, q1⟩, q2⟩ := h1
  have he : b.ex k = b.exits.getD k IEx.zero := rfl
  rw [he] at q1 q2
  generalize b.exits.getD k IEx.zero = e at q1 q2
  constructor
  · rcases q1 with q | q
    · exact .inl q
    · exact .inr (val_vin q)
  · intro v hv
    obtain ⟨i, hi, rfl⟩ := List.getElem_of_mem hv
    have := val_vin (allN_get q2 i hi)
    have e2 : e.vl i = e.map[i] := by simp [IEx.vl, hi]
    rw [e2] at this
    exact this
theorem fw_fw {b : IBk} (hc : b.check = 0) : b.fw.fw = b.fw := by
  have hi := fwd_all hc
  have hp := right_parts hc
  have key : ∀ n, vin b.ops b.ops.length n → vin (fwd b.ops).l (fwd b.ops).l.length ((fwd b.ops).to.getD n.toNat 0) := fun n ⟨h1, h2, _, h4⟩ => hi.vals n.toNat (by omega) h4
  have ups : ∀ n, vin (fwd b.ops).l (fwd b.ops).l.length n → (upto (fwd b.ops).l.length).getD n.toNat 0 = n := fun n ⟨h1, h2, _, _⟩ => by rw [upto_get (by omega)]; omega
  have hag := hi.again
  unfold IBk.fw
  simp only [hag]
  congr 1
  rw [List.map_map]
  apply List.map_congr_left
  intro e he
  obtain ⟨k, hk, rfl⟩ := List.getElem_of_mem he
  have hl := leaf_parts (hp.2 k hk)
  have hg : b.exits.getD k IEx.zero = b.exits[k] := by simp [hk]
  rw [hg] at hl
  generalize b.exits[k] = e at hl
  obtain ⟨h1, h2⟩ := hl
  simp only [Function.comp, renE]
  congr 1
  · rcases h1 with h1 | h1
    · simp [h1]
    · have k1 := key _ h1
      have hne : e.to ≠ -1 := by have := h1.1; omega
      simp only [if_neg hne]
      rw [if_neg (by have := k1.1; omega), ups _ k1]
  · rw [List.map_map]
    apply List.map_congr_left
    intro v hv
    simp only [Function.comp, renV]
    rw [ups _ (key _ (h2 v hv))]
theorem step_pre (f : Fw) (o : IOp) : ∃ s t, (f.step o).l = f.l ++ s ∧ (f.step o).to = f.to ++ t := by
  by_cases h : 0 ≤ knownN f.l f.stored (ren f.to o)
  · have : f.step o = ⟨f.l, f.to ++ [knownN f.l f.stored (ren f.to o)], f.stored⟩ := by unfold Fw.step; simp only; rw [if_pos h]
    rw [this]
    exact ⟨[], _, by simp, rfl⟩
  · have : f.step o = ⟨f.l ++ [ren f.to o], f.to ++ [(f.l.length : Int)], if (ren f.to o).code = 5 then f.l.length else f.stored⟩ := by unfold Fw.step; simp only; rw [if_neg h]
    rw [this]
    exact ⟨_, _, rfl, rfl⟩
theorem fold_pre (l : List IOp) : ∀ f : Fw, ∃ s t, (l.foldl Fw.step f).l = f.l ++ s ∧ (l.foldl Fw.step f).to = f.to ++ t := by
  induction l with
  | nil => intro f; exact ⟨[], [], by simp, by simp⟩
  | cons o l ih =>
    intro f
    obtain ⟨s, t, h1, h2⟩ := ih (f.step o)
    obtain ⟨s', t', h3, h4⟩ := step_pre f o
    exact ⟨s' ++ s, t' ++ t, by rw [List.foldl_cons, h1, h3, List.append_assoc], by rw [List.foldl_cons, h2, h4, List.append_assoc]⟩
theorem fwd_pre (l : List IOp) (k : Nat) : ∃ s t, (fwd l).l = (fwd (l.take k)).l ++ s ∧ (fwd l).to = (fwd (l.take k)).to ++ t := by
  have : fwd l = (l.drop k).foldl Fw.step (fwd (l.take k)) := by
    rw [fwd, fwd, ← List.foldl_append, List.take_append_drop]
  rw [this]
  exact fold_pre _ _
/-- Each operation made is one of the block's, its values told anew. -/
theorem fwd_src (l : List IOp) : ∀ k, k ≤ l.length → ∀ j, j < (fwd (l.take k)).l.length → ∃ i, i < k ∧ (fwd (l.take i)).l.length = j ∧ (fwd (l.take k)).l.getD j IOp.zero = ren (fwd (l.take i)).to (l.getD i IOp.zero) := by
  intro k
  induction k with
  | zero => intro _ j hj; simp [fwd, Fw.init] at hj
  | succ k ih =>
    intro hk j hj
    rw [fwd_succ _ _ (by omega)] at hj ⊢
    unfold Fw.step at hj ⊢
    simp only at hj ⊢
    split at hj
    · rename_i h
      rw [if_pos h]
      obtain ⟨i, h1, h2, h3⟩ := ih (by omega) j hj
      exact ⟨i, by omega, h2, h3⟩
    · rename_i h
      rw [if_neg h]
      simp only [List.length_append, List.length_cons, List.length_nil] at hj
      by_cases e : j = (fwd (l.take k)).l.length
      · exact ⟨k, by omega, e.symm, getD_eq e⟩
      · obtain ⟨i, h1, h2, h3⟩ := ih (by omega) j (by omega)
        exact ⟨i, by omega, h2, by rw [getD_lt (by omega)]; exact h3⟩
end Go.Ab
