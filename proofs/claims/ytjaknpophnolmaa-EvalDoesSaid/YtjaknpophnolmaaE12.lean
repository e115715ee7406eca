/- The document's memory: made anew, and bytes laid. -/
import Derived.Test.YtjaknpophnolmaaE11
set_option linter.unusedSimpArgs false
set_option linter.unusedVariables false
set_option maxRecDepth 10000
namespace Go.Ab
open Go.Proofs
variable {G : Glo} {h : Heap}
/-- A part of a composite that is a row of one's own becomes data that stays. -/
theorem Le.aggf {g : Heap} {b n cap i : Nat} {cells : List AV} {L : List AV} {sp : Nat} (hi : L[i]? = some (.sl b 0 n cap)) (hb : g b = none) (h0 : n = 0 → cells = []) : Le (.agg L) (upd g b ⟨cells, sp⟩) (.agg (L.set i (.ro cells n))) g := by
  intro w v hw hr
  obtain ⟨cs, rfl, hl, h1, hr1⟩ := rep_agg hr
  have hsub : Sub g (upd g b ⟨cells, sp⟩) := (Sub.refl g).alloc hb
  obtain ⟨l1, _⟩ := hrep_less hw hsub
  have hk : Keeps w (upd g b ⟨cells, sp⟩).dom w g.dom := ⟨Nat.le_refl _, fun c _ hn => ⟨fun hd => hn fun e => hd (hsub.none e), rfl⟩⟩
  refine ⟨l1, .agg _ _ (by simpa using hl) h1 fun j u c e1 e2 => ?_, fun c hc => hsub.none hc⟩
  rw [List.getElem?_set] at e1
  split at e1
  · rename_i hij
    subst hij
    split at e1
    · cases e1
      exact (Le.freeze (pre := []) hb h0 w c hw (hr1 i _ c hi e2)).2.1
    · cases e1
  · exact (hr1 j u c e1 e2).keep hk
/-- Three rows of one's own. -/
def rowsH (h : Heap) (b w g : Nat) (M : IRam) : Heap := upd (upd (upd h b ⟨bys M.b, 0⟩) w ⟨bos M.w, 0⟩) g ⟨qws M.g, 0⟩
def RowsTo (h : Heap) (M : IRam) (r : AV) (h' : Heap) : Prop := ∃ b w g, (b ≠ w ∧ b ≠ g ∧ w ≠ g) ∧ (h b = none ∧ h w = none ∧ h g = none) ∧
  r = .agg [.sl b 0 M.b.length M.b.length, .sl w 0 M.w.length M.w.length, .sl g 0 M.g.length M.g.length] ∧ h' = rowsH h b w g M
theorem rNew_spec (n : Nat) (hn : rightN n = true) : Spec Try.prog G 37 [.int .i64 n] h (RowsTo h (IRam.new n)) := by
  simp only [rightN, Bool.and_eq_true, decide_eq_true_eq] at hn
  have hq : (n : Int).tdiv 64 = ((n / 64 : Nat) : Int) := by simp
  obtain ⟨p, hp⟩ : ∃ p, n / 64 = p := ⟨_, rfl⟩
  rw [hp] at hq
  obtain ⟨c1, c2, c3⟩ := new_cells n
  obtain ⟨d1, d2, d3⟩ := new_cells p
  have fin : ∀ (b w g : Nat) (H : Heap), (h b = none ∧ h w = none ∧ h g = none) → (b ≠ w ∧ b ≠ g ∧ w ≠ g) → H b = some ⟨List.replicate n (.int .u8 0), 0⟩ → H w = some ⟨List.replicate p (.bool false), 0⟩ → H g = some ⟨List.replicate p (.int .u64 0), 0⟩ →
      (∀ c x, h c = some x → H c = some x) → ∃ h1, Sub h1 H ∧ RowsTo h (IRam.new n) (.agg [.sl b 0 n n, .sl w 0 p p, .sl g 0 p p]) h1 := by
    intro b w g H f q h1 h2 h3 ho
    refine ⟨_, fun c x hc => ?_, b, w, g, q, f, by simp [IRam.new, hp], rfl⟩
    simp only [rowsH, upd_at] at hc
    split at hc
    · rename_i e; subst e; rw [h3, ← hc, ← d3, ← hp]; rfl
    · split at hc
      · rename_i e; subst e; rw [h2, ← hc, ← d2, ← hp]; rfl
      · split at hc
        · rename_i e; subst e; rw [h1, ← hc, ← c1]; rfl
        · exact ho c x hc
  refine Spec.drop ?_
  refine Spec.walk C37ok rfl ?_
  have z1 : ((n : Int) - (n : Int)).toNat = 0 := by omega
  have z2 : ((p : Int) - (p : Int)).toNat = 0 := by omega
  have z3 : ∀ (x y z u : Nat), x ≠ u → y ≠ u → z ≠ u → x ≠ y → x ≠ z → y ≠ z → ∀ D A B C : Blk, upd (upd (upd (upd h u D) x A) y B) z C u = some D := by
    intro x y z u q1 q2 q3 q4 q5 q6 D A B C
    rw [upd_ne (Ne.symm q3), upd_ne (Ne.symm q2), upd_ne (Ne.symm q1), upd_same]
  have z4 : ∀ (x y z u : Nat), x ≠ u → y ≠ u → z ≠ u → x ≠ y → x ≠ z → y ≠ z → ∀ D A B C E : Blk, (upd (upd (upd (upd (upd h u D) x A) y B) z C) u E) x = some A ∧ (upd (upd (upd (upd (upd h u D) x A) y B) z C) u E) y = some B ∧ (upd (upd (upd (upd (upd h u D) x A) y B) z C) u E) z = some C ∧
      ∀ c, c ≠ x → c ≠ y → c ≠ z → c ≠ u → (upd (upd (upd (upd (upd h u D) x A) y B) z C) u E) c = h c := by
    intro x y z u q1 q2 q3 q4 q5 q6 D A B C E
    refine ⟨?_, ?_, ?_, fun c k1 k2 k3 k4 => ?_⟩
    · rw [upd_ne q1, upd_ne q5, upd_ne q4, upd_same]
    · rw [upd_ne q2, upd_ne q6, upd_same]
    · rw [upd_ne q3, upd_same]
    · rw [upd_ne k4, upd_ne k3, upd_ne k2, upd_ne k1, upd_ne k4]
  simp (disch := omega) only [push_cast, simprocAttr, wrap_i64, toNat_ofInt64, Nat.min_eq_left, Int.toNat_of_nonneg, hq, z1, z2]
  (repeat' (first | apply And.intro | intro _)) <;> first
    | omega
    | (rename_i b0 e0 b1 e1 b2 e2 b3 e3
       obtain ⟨n10, f1⟩ := upd_none e1
       obtain ⟨n21, e2'⟩ := upd_none e2
       obtain ⟨n20, f2⟩ := upd_none e2'
       obtain ⟨n32, e3'⟩ := upd_none e3
       obtain ⟨n31, e3''⟩ := upd_none e3'
       obtain ⟨n30, f3⟩ := upd_none e3''
       have look := z3 b1 b2 b3 b0 n10 n20 n30 (Ne.symm n21) (Ne.symm n31) (Ne.symm n32)
       have key := z4 b1 b2 b3 b0 n10 n20 n30 (Ne.symm n21) (Ne.symm n31) (Ne.symm n32)
       have old : ∀ D A B C E : Blk, ∀ c x, h c = some x → (upd (upd (upd (upd (upd h b0 D) b1 A) b2 B) b3 C) b0 E) c = some x := by
         intro D A B C E c x hc
         rw [(key D A B C E).2.2.2 c (fun e => by rw [e, f1] at hc; cases hc) (fun e => by rw [e, f2] at hc; cases hc) (fun e => by rw [e, f3] at hc; cases hc) (fun e => by rw [e, e0] at hc; cases hc)]
         exact hc
       clear z3 z4
       simp (disch := omega) only [push_cast, simprocAttr, wrap_i64, toNat_ofInt64, Nat.min_eq_left, Int.toNat_of_nonneg, look]
       first
         | exact fin b1 b2 b3 _ ⟨f1, f2, f3⟩ ⟨Ne.symm n21, Ne.symm n31, Ne.symm n32⟩ (key _ _ _ _ _).1 (key _ _ _ _ _).2.1 (key _ _ _ _ _).2.2.1 (old _ _ _ _ _)
         | exact fin b1 b3 b2 _ ⟨f1, f3, f2⟩ ⟨Ne.symm n31, Ne.symm n21, n32⟩ (key _ _ _ _ _).1 (key _ _ _ _ _).2.2.1 (key _ _ _ _ _).2.1 (old _ _ _ _ _)
         | exact fin b2 b1 b3 _ ⟨f2, f1, f3⟩ ⟨n21, Ne.symm n32, Ne.symm n31⟩ (key _ _ _ _ _).2.1 (key _ _ _ _ _).1 (key _ _ _ _ _).2.2.1 (old _ _ _ _ _)
         | exact fin b2 b3 b1 _ ⟨f2, f3, f1⟩ ⟨Ne.symm n32, n21, n31⟩ (key _ _ _ _ _).2.1 (key _ _ _ _ _).2.2.1 (key _ _ _ _ _).1 (old _ _ _ _ _)
         | exact fin b3 b1 b2 _ ⟨f3, f1, f2⟩ ⟨n31, n32, Ne.symm n21⟩ (key _ _ _ _ _).2.2.1 (key _ _ _ _ _).1 (key _ _ _ _ _).2.1 (old _ _ _ _ _)
         | exact fin b3 b2 b1 _ ⟨f3, f2, f1⟩ ⟨n32, n31, n21⟩ (key _ _ _ _ _).2.2.1 (key _ _ _ _ _).2.1 (key _ _ _ _ _).1 (old _ _ _ _ _))
end Go.Ab
