/- What is forwarded is right, and stays, over lists alone. -/
import Derived.Test.YtecfchkmmnphdaaB15
set_option linter.unusedSimpArgs false
set_option linter.unusedVariables false
namespace Go.Ab
def valued (o : IOp) : Prop := 1 ≤ o.code ∧ o.code ≤ 4
/-- A value's number in a list, ahead of a place. -/
def vin (l : List IOp) (j : Nat) (n : Int) : Prop := 0 ≤ n ∧ n < j ∧ n < l.length ∧ valued (l.getD n.toNat IOp.zero)
def goodAt (l : List IOp) (j : Nat) (o : IOp) : Prop := (o.code = 3 ∨ o.code = 5 ∨ o.code = 6 → vin l j o.a ∧ vin l j o.b) ∧ (o.code = 4 → vin l j o.a)
def upto (n : Nat) : List Int := (List.range n).map (fun i : Nat => (i : Int))
theorem upto_get {n i : Nat} (h : i < n) : (upto n).getD i 0 = (i : Int) := by simp [upto, h]
theorem upto_succ (n : Nat) : upto (n + 1) = upto n ++ [(n : Int)] := by simp [upto, List.range_succ]
theorem getD_lt {α : Type} {l m : List α} {i : Nat} {d : α} (h : i < l.length) : (l ++ m).getD i d = l.getD i d := by
  rw [List.getD_eq_getElem?_getD, List.getElem?_append_left h, ← List.getD_eq_getElem?_getD]
theorem getD_eq {α : Type} {l : List α} {x d : α} {i : Nat} (h : i = l.length) : (l ++ [x]).getD i d = x := by
  rw [List.getD_eq_getElem?_getD, List.getElem?_append_right (by omega), h, Nat.sub_self]; rfl
/-- What is kept while a right block's first k operations are read. -/
structure FwI (l0 : List IOp) (k : Nat) (f : Fw) : Prop where
  to : f.to.length = k
  st : f.stored < f.l.length
  vals : ∀ i, i < k → valued (l0.getD i IOp.zero) → vin f.l f.l.length (f.to.getD i 0)
  good : ∀ j, j < f.l.length → goodAt f.l j (f.l.getD j IOp.zero)
  stc : 0 ≤ f.stored → (f.l.getD f.stored.toNat IOp.zero).code = 5
  again : fwd f.l = ⟨f.l, upto f.l.length, f.stored⟩
theorem val_vin {b : IBk} {n : Int} {j : Nat} (h : b.val n j = true) : vin b.ops j n := by
  simp only [IBk.val, IBk.op, Bool.and_eq_true, decide_eq_true_eq] at h
  obtain ⟨⟨⟨⟨h1, h2⟩, h3⟩, h4⟩, h5⟩ := h
  exact ⟨h1, h2, h3, by simpa using h4, by simpa using h5⟩
theorem ren_code (to : List Int) (o : IOp) : (ren to o).code = o.code := by unfold ren; split <;> (try split) <;> rfl
theorem good_of {b : IBk} {k : Nat} (hk : b.opR k = true) : goodAt b.ops k (b.ops.getD k IOp.zero) := by
  rw [opR_eq b k rfl] at hk
  generalize b.ops.getD k IOp.zero = o at hk
  constructor
  · rintro (h | h | h)
    · rw [if_neg (by omega), if_neg (by omega), if_pos h] at hk
      simp only [Bool.and_eq_true] at hk
      exact ⟨val_vin hk.1.2, val_vin hk.2⟩
    · rw [if_neg (by omega), if_neg (by omega), if_neg (by omega), if_neg (by omega), if_pos h] at hk
      simp only [Bool.and_eq_true] at hk
      exact ⟨val_vin hk.1.1.1.2, val_vin hk.1.1.2⟩
    · rw [if_neg (by omega), if_neg (by omega), if_neg (by omega), if_neg (by omega), if_neg (by omega), if_pos h] at hk
      simp only [Bool.and_eq_true] at hk
      exact ⟨val_vin hk.1.1.2, val_vin hk.1.2⟩
  · intro h
    rw [if_neg (by omega), if_neg (by omega), if_neg (by omega), if_pos h] at hk
    simp only [Bool.and_eq_true] at hk
    exact val_vin hk.1.2
theorem vin_app {l : List IOp} {j : Nat} {n : Int} {o : IOp} (h : vin l j n) {j' : Nat} (hj : j ≤ j') : vin (l ++ [o]) j' n := by
  obtain ⟨h1, h2, h3, h4⟩ := h
  have hn : n.toNat < l.length := by omega
  refine ⟨h1, by omega, by simp; omega, ?_⟩
  rw [List.getD_eq_getElem?_getD, List.getElem?_append_left hn, ← List.getD_eq_getElem?_getD]
  exact h4
theorem goodAt_app {l : List IOp} {j : Nat} {o p : IOp} (h : goodAt l j o) : goodAt (l ++ [p]) j o :=
  ⟨fun c => ⟨vin_app (h.1 c).1 (Nat.le_refl _), vin_app (h.1 c).2 (Nat.le_refl _)⟩, fun c => vin_app (h.2 c) (Nat.le_refl _)⟩
theorem ren_good {l0 : List IOp} {k : Nat} {f : Fw} (hi : FwI l0 k f) {o : IOp} (ho : goodAt l0 k o) : goodAt f.l f.l.length (ren f.to o) := by
  have key : ∀ n, vin l0 k n → vin f.l f.l.length (f.to.getD n.toNat 0) := fun n ⟨h1, h2, _, h4⟩ => hi.vals n.toNat (by omega) h4
  constructor
  · intro c
    rw [ren_code] at c
    unfold ren
    rw [if_pos c]
    exact ⟨key _ (ho.1 c).1, key _ (ho.1 c).2⟩
  · intro c
    rw [ren_code] at c
    unfold ren
    rw [if_neg (by omega), if_pos c]
    exact key _ (ho.2 c)
theorem ren_upto {l : List IOp} {o : IOp} (ho : goodAt l l.length o) : ren (upto l.length) o = o := by
  have key : ∀ n, vin l l.length n → (upto l.length).getD n.toNat 0 = n := fun n ⟨h1, h2, _, _⟩ => by rw [upto_get (by omega)]; omega
  unfold ren
  split
  · rename_i c
    rw [key _ (ho.1 c).1, key _ (ho.1 c).2]
  · split
    · rename_i c
      rw [key _ (ho.2 c)]
    · rfl
theorem known_vin {l0 : List IOp} {k : Nat} {f : Fw} (hi : FwI l0 k f) {o : IOp} (h : 0 ≤ knownN f.l f.stored o) : vin f.l f.l.length (knownN f.l f.stored o) := by
  unfold knownN at h ⊢
  by_cases h1 : o.code ≠ 4 ∨ o.imm.toNat ≠ 13 ∨ f.stored < 0
  · rw [if_pos h1] at h; omega
  · rw [if_neg h1] at h ⊢
    simp only at h ⊢
    split at h
    · omega
    · rename_i h2
      rw [if_neg h2]
      have hst := hi.st
      have hg := hi.good f.stored.toNat (by omega)
      have hc := hi.stc (by omega)
      obtain ⟨q1, q2, q3, q4⟩ := (hg.1 (.inr (.inl hc))).2
      exact ⟨q1, by omega, q3, q4⟩
theorem FwI.step {l0 : List IOp} {k : Nat} {f : Fw} (hi : FwI l0 k f) (ho : goodAt l0 k (l0.getD k IOp.zero)) : FwI l0 (k + 1) (f.step (l0.getD k IOp.zero)) := by
  have hr := ren_good hi ho
  have hcode := ren_code f.to (l0.getD k IOp.zero)
  unfold Fw.step
  simp only
  split
  · rename_i hk
    have hv := known_vin hi hk
    refine ⟨by simp [hi.to], hi.st, fun i hik hvi => ?_, hi.good, hi.stc, hi.again⟩
    simp only
    by_cases e : i = k
    · rw [getD_eq (by rw [e, hi.to])]
      exact hv
    · rw [getD_lt (by rw [hi.to]; omega)]
      exact hi.vals i (by omega) hvi
  · rename_i hk
    generalize ren f.to (l0.getD k IOp.zero) = o at *
    have hst := hi.st
    refine ⟨by simp [hi.to], ?_, fun i hik hvi => ?_, fun j hj => ?_, fun h0 => ?_, ?_⟩
    · simp only [List.length_append, List.length_cons, List.length_nil]
      split <;> omega
    · simp only
      by_cases e : i = k
      · rw [e] at hvi
        rw [getD_eq (by rw [e, hi.to])]
        refine ⟨by omega, by simp; omega, by simp; omega, ?_⟩
        rw [getD_eq (by simp)]
        unfold valued at hvi ⊢
        rw [hcode]; exact hvi
      · rw [getD_lt (by rw [hi.to]; omega)]
        exact vin_app (hi.vals i (by omega) hvi) (by simp)
    · simp only [List.length_append, List.length_cons, List.length_nil] at hj
      simp only
      by_cases e : j = f.l.length
      · rw [getD_eq e, e]
        exact goodAt_app hr
      · rw [getD_lt (by omega)]
        exact goodAt_app (hi.good j (by omega))
    · by_cases c : o.code = 5
      · simp only [if_pos c] at h0 ⊢
        rw [getD_eq (by simp)]
        exact c
      · simp only [if_neg c] at h0 ⊢
        rw [getD_lt (by omega)]
        exact hi.stc h0
    · have : fwd (f.l ++ [o]) = (fwd f.l).step o := by rw [fwd, List.foldl_append]; rfl
      simp only
      rw [this, hi.again]
      unfold Fw.step
      simp only [ren_upto hr]
      rw [if_neg hk]
      simp [upto_succ]
theorem fwd_inv {b : IBk} (hc : b.check = 0) : ∀ k, k ≤ b.ops.length → FwI b.ops k (fwd (b.ops.take k)) := by
  intro k
  induction k with
  | zero => intro _; exact ⟨rfl, by simp [fwd, Fw.init], fun i h => by omega, fun j h => by simp [fwd, Fw.init] at h, fun h => by simp [fwd, Fw.init] at h, rfl⟩
  | succ k ih =>
    intro hk
    rw [fwd_succ _ _ (by omega)]
    exact (ih (by omega)).step (good_of ((right_parts hc).1 k (by omega)))
theorem fwd_all {b : IBk} (hc : b.check = 0) : FwI b.ops b.ops.length (fwd b.ops) := by
  have := fwd_inv hc b.ops.length (Nat.le_refl _)
  rwa [List.take_length] at this
end Go.Ab
