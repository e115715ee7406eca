/- The plain law: the two lists of differences are one; none just if the machines are the same. -/
import Derived.Test.YtecfchkmmnphdaaT40s
set_option linter.unusedSimpArgs false
set_option linter.unusedVariables false
namespace Go.Ab
open Go.Proofs
theorem rb_filt (w : ByteArray) (xs ys : List Int) : [rbC w xs ys].filter Df.ne = (bytesC w xs ys).filter Df.ne := by
  have hl := bytesC_len w xs ys
  unfold rbC
  match hb : bytesC w xs ys, hl with
  | [], _ => rfl
  | [d], _ => rfl
theorem two (a b : Df) : [a, b] = [a] ++ [b] := rfl
theorem three (a b c : Df) : [a, b, c] = [a] ++ ([b] ++ [c]) := rfl
theorem rStates_eq (a c : St) : rStates a c = cmpStates a c := by
  have e : (rCands a c).filter Df.ne = (cands a c).filter Df.ne := by
    unfold rCands cands
    rw [two, two, three, two, three, two]
    simp only [List.filter_append, rb_filt, List.append_assoc]
  rw [rStates, cmpStates, e]
theorem filt1 (d : Df) : [d].filter Df.ne = [] ↔ d.a = d.b := by
  simp [Df.ne, List.filter_cons]
theorem regsC_filt (x y : List Int) : ∀ d k, (regsC x y d k).filter Df.ne = [] ↔ ∀ i, k ≤ i → i < k + d → ri x i = ri y i := by
  intro d
  induction d with
  | zero => intro k; simp [regsC]; omega
  | succ d ih =>
    intro k
    have : regsC x y (d + 1) k = [⟨⟨#[114, 101, 103, 105, 115, 116, 101, 114]⟩, k, ri x k, ri y k⟩] ++ regsC x y d (k + 1) := rfl
    rw [this, List.filter_append, List.append_eq_nil_iff, filt1, ih]
    constructor
    · rintro ⟨h1, h2⟩ i hi hi2
      rcases (by omega : i = k ∨ k + 1 ≤ i) with rfl | h
      · exact h1
      · exact h2 i h (by omega)
    · intro h
      exact ⟨h k (Nat.le_refl _) (by omega), fun i h1 h2 => h i (by omega) (by omega)⟩
theorem bytesFrom_nil (w : ByteArray) (x y : List Int) : ∀ d k, bytesFrom w x y d k = [] ↔ ∀ i, k ≤ i → i < k + d → atI x i = atI y i := by
  intro d
  induction d with
  | zero => intro k; simp [bytesFrom]; omega
  | succ d ih =>
    intro k
    rw [bytesFrom]
    split
    · rename_i e
      rw [ih]
      constructor
      · intro h i hi hi2
        rcases (by omega : i = k ∨ k + 1 ≤ i) with rfl | h'
        · exact e
        · exact h i h' (by omega)
      · intro h i h1 h2
        exact h i (by omega) (by omega)
    · rename_i e
      constructor
      · intro h; cases h
      · intro h; exact absurd (h k (Nat.le_refl _) (by omega)) e
theorem atI_lt {x : List Int} (hx : ∀ v ∈ x, u8ok v) {i : Nat} : atI x i = 256 ↔ x.length ≤ i := by
  unfold atI
  cases e : x[i]? with
  | none => simp only [Option.getD_none, true_iff]; exact List.getElem?_eq_none_iff.1 e
  | some v =>
    have h1 := hx v (List.mem_of_getElem? e)
    have h2 : i < x.length := (List.getElem?_eq_some_iff.1 e).1
    simp only [Option.getD_some]
    constructor
    · intro h; have := h1.2; omega
    · intro h; omega
theorem bytesC_nil (w : ByteArray) {x y : List Int} (hx : ∀ v ∈ x, u8ok v) (hy : ∀ v ∈ y, u8ok v) : bytesC w x y = [] ↔ x = y := by
  rw [bytesC, bytesFrom_nil]
  constructor
  · intro h
    have hl : x.length = y.length := by
      rcases Nat.lt_trichotomy x.length y.length with hlt | he | hgt
      · have := h x.length (Nat.zero_le _) (by omega)
        rw [(atI_lt hx).2 (Nat.le_refl _)] at this
        have := (atI_lt hy).1 this.symm
        omega
      · exact he
      · have := h y.length (Nat.zero_le _) (by omega)
        rw [(atI_lt hy).2 (Nat.le_refl _)] at this
        have := (atI_lt hx).1 this
        omega
    refine eq_of_upto hl fun i hi => ?_
    have := h i (Nat.zero_le _) (by omega)
    simp only [atI, List.getElem?_eq_getElem hi, List.getElem?_eq_getElem (show i < y.length by omega), Option.getD_some] at this ⊢
    rw [this]
  · rintro rfl i _ _
    rfl
theorem evFrom_nil (x y : List Ev) : ∀ d k, k + d = min x.length y.length → (∀ i, i < k → x[i]? = y[i]?) → (¬ 0 ≤ evFrom x y d k ↔ x = y) := by
  intro d
  induction d with
  | zero =>
    intro k hk hp
    simp only [evFrom]
    constructor
    · intro h
      have hl : x.length = y.length := by
        refine Decidable.byContradiction fun hne => h ?_
        rw [if_neg hne]; omega
      exact eq_of_upto hl fun i hi => hp i (by omega)
    · rintro rfl
      simp
  | succ d ih =>
    intro k hk hp
    simp only [evFrom]
    split
    · rename_i e
      refine ih (k + 1) (by omega) fun i hi => ?_
      rcases (by omega : i < k ∨ i = k) with h | rfl
      · exact hp i h
      · exact e
    · rename_i e
      constructor
      · intro h; exact absurd (Int.natCast_nonneg k) h
      · rintro rfl; exact absurd rfl e
theorem evC_nil (a c : St) : evC a c = [] ↔ a.events = c.events := by
  have := evFrom_nil a.events c.events (min a.events.length c.events.length) 0 (by omega) (fun i hi => by omega)
  rw [← this]
  by_cases hh : 0 ≤ evAt a.events c.events
  · rw [evC, if_pos hh]
    exact ⟨(fun h => by cases h), fun h => absurd hh h⟩
  · rw [evC, if_neg hh]
    exact ⟨fun _ => hh, fun _ => rfl⟩
theorem keptC_nil {x y : List Int} (hx : x.length = 7) (hy : y.length = 7) : (keptC x y).filter Df.ne = [] ↔ x = y := by
  obtain ⟨x0, x1, x2, x3, x4, x5, x6, rfl⟩ := seven x hx
  obtain ⟨y0, y1, y2, y3, y4, y5, y6, rfl⟩ := seven y hy
  simp [keptC, names7, Df.ne, List.filter_eq_nil_iff]
theorem one_inj {a b : Bool} : one a = one b ↔ a = b := by cases a <;> cases b <;> simp [one]
theorem c64_inj {x y : Int} (hx : -9223372036854775808 ≤ x ∧ x ≤ 9223372036854775807) (hy : -9223372036854775808 ≤ y ∧ y ≤ 9223372036854775807) : c64 x = c64 y ↔ x = y := by
  simp only [c64, IntKind.wrap, IntKind.signed, IntKind.bits]
  constructor
  · intro h; simp at h; omega
  · rintro rfl; rfl
theorem regs_nil {x y : List Int} (hx : x.length = 32) (hy : y.length = 32) (h0 : ri x 0 = ri y 0) : (regsC x y 31 1).filter Df.ne = [] ↔ x = y := by
  rw [regsC_filt]
  constructor
  · intro h
    refine eq_of_upto (by omega) fun i hi => ?_
    have : ri x i = ri y i := by
      by_cases e : i = 0
      · subst e; exact h0
      · exact h i (by omega) (by omega)
    simp only [ri, List.getElem?_eq_getElem hi, List.getElem?_eq_getElem (show i < y.length by omega), Option.getD_some] at this ⊢
    rw [this]
  · rintro rfl i _ _
    rfl
theorem cmp_nil {a c : St} (oa : a.ok) (oc : c.ok) (ca : -9223372036854775808 ≤ a.came ∧ a.came ≤ 9223372036854775807) (cc : -9223372036854775808 ≤ c.came ∧ c.came ≤ 9223372036854775807) (h0 : ri a.regs 0 = ri c.regs 0) : cmpStates a c = [] ↔ sameB a c = true := by
  have e1 := regs_nil oa.regs oc.regs h0
  have e2 := keptC_nil oa.kept oc.kept
  have b1 := bytesC_nil ⟨#[109, 101, 109, 111, 114, 121]⟩ oa.ram8 oc.ram8
  have b2 := bytesC_nil ⟨#[119, 97, 105, 116, 115]⟩ oa.rx8 oc.rx8
  have b3 := bytesC_nil ⟨#[111, 117, 116]⟩ oa.out8 oc.out8
  have e3 := c64_inj ca cc
  have e4 := evC_nil a c
  rw [cmpStates, cands]
  simp only [List.append_eq_nil_iff, List.filter_append, filt1, e1, e2, bytesC, bytesFrom_filt, e3, e4, one_inj, sameB, Bool.and_eq_true, decide_eq_true_eq]
  simp only [bytesC] at b1 b2 b3
  rw [b1, b2, b3]
  constructor
  · rintro ⟨⟨⟨⟨⟨⟨⟨⟨⟨⟨⟨⟨⟨⟨⟨⟨⟨p1, p2⟩, p3⟩, p4⟩, p5⟩, p6⟩, p7⟩, p8⟩, p9⟩, p10⟩, p11⟩, p12⟩, p13⟩, p14⟩, p15⟩, p16⟩, p17⟩, p18⟩
    simp only [*, and_self]
  · rintro ⟨p1, p2, ⟨p3, p4, p5⟩, p6, p7, ⟨p8, p9, p10⟩, p11, p12, p13, p14, p15, p16, p17, p18⟩
    simp only [*, and_self]
end Go.Ab
