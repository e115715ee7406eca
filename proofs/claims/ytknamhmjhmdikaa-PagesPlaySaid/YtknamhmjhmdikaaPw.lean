/- Pairs of a block and a page, and rising lists of numbers, as the document has them. -/
import Derived.Test.YtknamhmjhmdikaaAb1
namespace Go.Ab
def ascL (l : List Int) : Prop := l.Pairwise (· < ·)
theorem asc_ext : ∀ {a b : List Int}, ascL a → ascL b → (∀ x, x ∈ a ↔ x ∈ b) → a = b
  | [], [], _, _, _ => rfl
  | [], y :: b, _, _, h => absurd ((h y).2 (by simp)) (by simp)
  | x :: a, [], _, _, h => absurd ((h x).1 (by simp)) (by simp)
  | x :: a, y :: b, ha, hb, h => by
    obtain ⟨ha1, ha2⟩ := List.pairwise_cons.1 ha
    obtain ⟨hb1, hb2⟩ := List.pairwise_cons.1 hb
    have e : x = y := by
      rcases List.mem_cons.1 ((h x).1 (by simp)) with e | e
      · exact e
      · rcases List.mem_cons.1 ((h y).2 (by simp)) with e' | e'
        · exact e'.symm
        · have := hb1 x e; have := ha1 y e'; omega
    subst e
    rw [asc_ext ha2 hb2 fun z => ?_]
    constructor
    · intro hz
      rcases List.mem_cons.1 ((h z).1 (by simp [hz])) with e | e
      · have := ha1 z hz; omega
      · exact e
    · intro hz
      rcases List.mem_cons.1 ((h z).2 (by simp [hz])) with e | e
      · have := hb1 z hz; omega
      · exact e
def insU (x : Int) : List Int → List Int
  | [] => [x]
  | a :: r => if a < x then a :: insU x r else if a = x then a :: r else x :: a :: r
theorem mem_insU {x y : Int} : ∀ {l : List Int}, y ∈ insU x l ↔ y = x ∨ y ∈ l
  | [] => by simp [insU]
  | a :: r => by
    unfold insU
    split
    · simp only [List.mem_cons, mem_insU (l := r)]
      constructor
      · rintro (h | h | h) <;> simp [h]
      · rintro (h | h | h) <;> simp [h]
    · split
      · rename_i e
        subst e
        simp
      · simp
theorem asc_insU {x : Int} : ∀ {l : List Int}, ascL l → ascL (insU x l)
  | [], _ => by simp [insU, ascL]
  | a :: r, h => by
    obtain ⟨h1, h2⟩ := List.pairwise_cons.1 h
    unfold insU
    split
    · refine List.pairwise_cons.2 ⟨fun y hy => ?_, asc_insU h2⟩
      rcases mem_insU.1 hy with e | e
      · omega
      · exact h1 y e
    · split
      · exact h
      · refine List.pairwise_cons.2 ⟨fun y hy => ?_, h⟩
        rcases List.mem_cons.1 hy with e | e
        · omega
        · have := h1 y e; omega
/-- How many numbers of a list's beginning are less. -/
def lessN (x : Int) (l : List Int) : Nat := (l.takeWhile fun a => decide (a < x)).length
theorem lessN_le (x : Int) (l : List Int) : lessN x l ≤ l.length := (List.takeWhile_sublist _).length_le
theorem insU_new {x : Int} : ∀ {l : List Int}, (lessN x l = l.length ∨ l[lessN x l]? ≠ some x) → insU x l = l.take (lessN x l) ++ x :: l.drop (lessN x l)
  | [], _ => rfl
  | a :: r, h => by
    unfold insU
    unfold lessN at h ⊢
    by_cases e : a < x
    · simp only [List.takeWhile_cons, e, decide_true, if_true, List.length_cons, List.take_succ_cons, List.drop_succ_cons, List.cons_append, List.getElem?_cons_succ, Nat.add_right_cancel_iff] at h ⊢
      rw [insU_new h]; rfl
    · simp only [List.takeWhile_cons, e, decide_false, if_false, Bool.false_eq_true, List.length_nil, List.take_zero, List.drop_zero, List.nil_append, List.getElem?_cons_zero, ne_eq, Option.some.injEq, List.length_cons] at h ⊢
      rw [if_neg (by rcases h with h | h <;> first | exact h | omega)]
theorem insU_old {x : Int} : ∀ {l : List Int}, lessN x l < l.length → l[lessN x l]? = some x → insU x l = l
  | [], h, _ => by simp at h
  | a :: r, h, h' => by
    unfold insU
    unfold lessN at h h'
    by_cases e : a < x
    · simp only [List.takeWhile_cons, e, decide_true, if_true, List.length_cons, List.getElem?_cons_succ] at h h' ⊢
      rw [insU_old (by unfold lessN; omega) h']
    · simp only [List.takeWhile_cons, e, decide_false, if_false, Bool.false_eq_true, List.length_nil, List.getElem?_cons_zero, Option.some.injEq] at h' ⊢
      rw [if_pos h']
theorem lessN_at {x : Int} {l : List Int} {k : Nat} (h1 : ∀ j a, j < k → l[j]? = some a → a < x) (h2 : k = l.length ∨ ∃ a, l[k]? = some a ∧ ¬ a < x) : k = lessN x l := by
  induction l generalizing k with
  | nil =>
    rcases h2 with h | ⟨a, h, _⟩
    · simpa [lessN] using h
    · simp at h
  | cons a r ih =>
    unfold lessN
    cases k with
    | zero =>
      rcases h2 with h | ⟨b, h, hb⟩
      · simp at h
      · simp at h; subst h; simp [hb]
    | succ k =>
      have ha : a < x := h1 0 a (by omega) rfl
      have := ih (k := k) (fun j b hj hb => h1 (j + 1) b (by omega) (by simpa using hb)) (by
        rcases h2 with h | ⟨b, h, hb⟩
        · left; simpa using h
        · exact .inr ⟨b, by simpa using h, hb⟩)
      simp only [List.takeWhile_cons, ha, decide_true, if_true, List.length_cons]
      unfold lessN at this
      omega
def sortU (l : List Int) : List Int := l.foldl (fun o x => insU x o) []
theorem sortU_snoc (l : List Int) (x : Int) : sortU (l ++ [x]) = insU x (sortU l) := by simp [sortU]
theorem sortU_mem (x : Int) (l : List Int) : x ∈ sortU l ↔ x ∈ l := by
  have : ∀ (l o : List Int), x ∈ l.foldl (fun o x => insU x o) o ↔ x ∈ o ∨ x ∈ l := by
    intro l
    induction l with
    | nil => intro o; simp
    | cons a r ih => intro o; simp only [List.foldl_cons, ih, mem_insU, List.mem_cons]; grind
  simpa [sortU] using this l []
theorem sortU_asc (l : List Int) : ascL (sortU l) := by
  have : ∀ (l o : List Int), ascL o → ascL (l.foldl (fun o x => insU x o) o) := by
    intro l
    induction l with
    | nil => intro o h; exact h
    | cons a r ih => intro o h; exact ih _ (asc_insU h)
  exact this l [] (by simp [ascL])
theorem sortU_len (l : List Int) : (sortU l).length ≤ l.length := by
  have h1 : ∀ (x : Int) (o : List Int), (insU x o).length ≤ o.length + 1 := by
    intro x o
    induction o with
    | nil => simp [insU]
    | cons a r ih => unfold insU; split; · simp; omega
                     · split <;> simp
  have : ∀ (l o : List Int), (l.foldl (fun o x => insU x o) o).length ≤ o.length + l.length := by
    intro l
    induction l with
    | nil => intro o; simp
    | cons a r ih => intro o; have := ih (insU a o); have := h1 a o; simp only [List.foldl_cons, List.length_cons]; omega
  simpa [sortU] using this l []
def addP (W : List (Int × Int)) (i : Int) (ps : List Int) : List (Int × Int) := ps.foldl (fun o p => if (i, p) ∈ o then o else o ++ [(i, p)]) W
theorem addP_snoc (W : List (Int × Int)) (i : Int) (ps : List Int) (p : Int) : addP W i (ps ++ [p]) = if (i, p) ∈ addP W i ps then addP W i ps else addP W i ps ++ [(i, p)] := by unfold addP; rw [List.foldl_append]; rfl
theorem addP_mem {q : Int × Int} {i : Int} : ∀ {ps : List Int} {W : List (Int × Int)}, q ∈ addP W i ps ↔ q ∈ W ∨ q.1 = i ∧ q.2 ∈ ps
  | [], W => by simp [addP]
  | p :: ps, W => by
    have h : q ∈ (if (i, p) ∈ W then W else W ++ [(i, p)]) ↔ q ∈ W ∨ q = (i, p) := by
      split
      · rename_i e
        constructor
        · exact .inl
        · rintro (h | rfl)
          · exact h
          · exact e
      · simp
    have : q ∈ addP W i (p :: ps) ↔ q ∈ addP (if (i, p) ∈ W then W else W ++ [(i, p)]) i ps := by simp [addP]
    rw [this, addP_mem, h, List.mem_cons]
    obtain ⟨q1, q2⟩ := q
    simp only [Prod.mk.injEq]
    grind
theorem addP_len {i : Int} : ∀ {ps : List Int} {W : List (Int × Int)}, (addP W i ps).length ≤ W.length + ps.length
  | [], W => by simp [addP]
  | p :: ps, W => by
    have : addP W i (p :: ps) = addP (if (i, p) ∈ W then W else W ++ [(i, p)]) i ps := rfl
    rw [this]
    have := addP_len (i := i) (ps := ps) (W := if (i, p) ∈ W then W else W ++ [(i, p)])
    have h2 : (if (i, p) ∈ W then W else W ++ [(i, p)]).length ≤ W.length + 1 := by split <;> simp
    simp only [List.length_cons]
    omega
def dropP (W : List (Int × Int)) (i : Int) : List (Int × Int) := W.filter fun q => q.1 != i
def ofP (W : List (Int × Int)) (p : Int) : List Int := sortU ((W.filter fun q => q.2 == p).map (·.1))
def pgP (W : List (Int × Int)) (i : Int) : List Int := sortU ((W.filter fun q => q.1 == i).map (·.2))
def allP (W : List (Int × Int)) : List Int := sortU (W.map (·.2))
def idsP (W : List (Int × Int)) : List Int := sortU (W.map (·.1))
/-- Is a page not watched? -/
def unw (wt : List Bool) (p : Int) : Bool := !(decide (0 ≤ p) && decide (p < (wt.length : Int)) && wt.getD p.toNat false)
def hitP (W : List (Int × Int)) (wt : List Bool) : List Int := sortU ((W.filter fun q => unw wt q.2).map (·.1))
theorem ofP_mem {W : List (Int × Int)} {p x : Int} : x ∈ ofP W p ↔ (x, p) ∈ W := by
  simp only [ofP, sortU_mem, List.mem_map, List.mem_filter, beq_iff_eq]
  constructor
  · rintro ⟨⟨a, b⟩, ⟨h, rfl⟩, rfl⟩; exact h
  · intro h; exact ⟨(x, p), ⟨h, rfl⟩, rfl⟩
theorem pgP_mem {W : List (Int × Int)} {i x : Int} : x ∈ pgP W i ↔ (i, x) ∈ W := by
  simp only [pgP, sortU_mem, List.mem_map, List.mem_filter, beq_iff_eq]
  constructor
  · rintro ⟨⟨a, b⟩, ⟨h, rfl⟩, rfl⟩; exact h
  · intro h; exact ⟨(i, x), ⟨h, rfl⟩, rfl⟩
theorem allP_mem {W : List (Int × Int)} {x : Int} : x ∈ allP W ↔ ∃ i, (i, x) ∈ W := by
  simp only [allP, sortU_mem, List.mem_map]
  constructor
  · rintro ⟨⟨a, b⟩, h, rfl⟩; exact ⟨a, h⟩
  · rintro ⟨i, h⟩; exact ⟨(i, x), h, rfl⟩
theorem idsP_mem {W : List (Int × Int)} {x : Int} : x ∈ idsP W ↔ ∃ p, (x, p) ∈ W := by
  simp only [idsP, sortU_mem, List.mem_map]
  constructor
  · rintro ⟨⟨a, b⟩, h, rfl⟩; exact ⟨b, h⟩
  · rintro ⟨i, h⟩; exact ⟨(x, i), h, rfl⟩
theorem hitP_mem {W : List (Int × Int)} {wt : List Bool} {x : Int} : x ∈ hitP W wt ↔ ∃ p, (x, p) ∈ W ∧ unw wt p = true := by
  simp only [hitP, sortU_mem, List.mem_map, List.mem_filter]
  constructor
  · rintro ⟨⟨a, b⟩, ⟨h, h'⟩, rfl⟩; exact ⟨b, h, h'⟩
  · rintro ⟨p, h, h'⟩; exact ⟨(x, p), ⟨h, h'⟩, rfl⟩
theorem dropP_mem {W : List (Int × Int)} {i : Int} {q : Int × Int} : q ∈ dropP W i ↔ q ∈ W ∧ q.1 ≠ i := by simp [dropP]
end Go.Ab
