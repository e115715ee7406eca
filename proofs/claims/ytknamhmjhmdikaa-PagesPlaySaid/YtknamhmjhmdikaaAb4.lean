/- A frame for walks over what values stand for, part Ab4. -/
import Derived.Test.YtknamhmjhmdikaaAb3
namespace Go.Ab
section
variable {P : Program} {G : Glo} {w : World}
theorem abin_sound {op : BinOp} {x y v : AV} (hv : abin op x y = some v) {O : Nat → Prop} {c d : Value} (hx : Rep w O x c) (hy : Rep w O y d) (t : TypeId) :
    ∃ r, (binOp op t c d).run P w = .ok r w ∧ Rep w O v r := by
  unfold abin at hv
  split at hv
  · rename_i k a k' b
    rw [rep_int hx, rep_int hy]
    split at hv
    case h_1 => 
      split at hv
      · cases hv
      · rename_i hb
        cases hv
        exact ⟨_, by simp [binOp, Op.shift, hb], .int _ _⟩
    case h_2 => 
      split at hv
      · cases hv
      · rename_i hb
        cases hv
        exact ⟨_, by simp [binOp, Op.shift, hb], .int _ _⟩
    case h_6 | h_7 =>
      split at hv
      · rename_i hk
        subst hk
        split at hv
        · cases hv
        · rename_i hb
          cases hv
          exact ⟨_, by simp [binOp, Op.intDiv, hb], .int _ _⟩
      · cases hv
    all_goals
      split at hv
      · rename_i hk
        subst hk
        cases hv
        first
          | (refine ⟨_, ?_, .int _ _⟩; simp [binOp, Op.intArith]; done)
          | (refine ⟨_, ?_, .int _ _⟩; simp only [binOp, ne_eq, not_true_eq_false, if_false]; rfl)
          | (refine ⟨_, ?_, .bool _⟩; simp [binOp, Op.intCmp]; done)
      · cases hv
  · rename_i a b
    rw [rep_str hx, rep_str hy]
    split at hv
    · split at hv
      · rename_i hl
        cases hv
        refine ⟨_, ?_, .str _⟩
        have : ¬ (((a.size + b.size : Nat) : Int) > IntKind.i64.max) := by simp [IntKind.max, IntKind.signed, IntKind.bits]; omega
        simp only [binOp, Op.stringOp]
        rw [if_neg this]
        rfl
      · cases hv
    all_goals first
      | (cases hv; exact ⟨_, by simp [binOp, Op.stringOp], .bool _⟩)
      | cases hv
  · cases hv
theorem guard_int {op : BinOp} {t : TypeId} {x y : Operand} {c d : Value} (h : (∃ k n, c = .int k n) ∨ ∃ s, c = .string s) : (eqGuard op t x y c d).run P w = .ok () w := by
  rcases h with ⟨k, n, rfl⟩ | ⟨s, rfl⟩ <;> (unfold eqGuard; cases op <;> simp <;> rfl)
theorem abin_left {op : BinOp} {x y v : AV} (hv : abin op x y = some v) {O : Nat → Prop} {c : Value} (hx : Rep w O x c) : (∃ k n, c = .int k n) ∨ ∃ s, c = .string s := by
  unfold abin at hv
  split at hv
  · exact .inl ⟨_, _, rep_int hx⟩
  · exact .inr ⟨_, rep_str hx⟩
  · cases hv
theorem foldl_set : ∀ (vs : List Value) (k off : Nat) (cs : Array Value),
    ((vs.zipIdx k).foldl (fun cs (x : Value × Nat) => cs.setIfInBounds (off + x.2) x.1) cs).size = cs.size ∧
    (off + k + vs.length ≤ cs.size → ∀ i : Nat, ((vs.zipIdx k).foldl (fun cs (x : Value × Nat) => cs.setIfInBounds (off + x.2) x.1) cs)[i]? =
      if off + k ≤ i ∧ i < off + k + vs.length then vs[i - (off + k)]? else cs[i]?) := by
  intro vs
  induction vs with
  | nil => intro k off cs; exact ⟨rfl, fun _ i => by rw [if_neg (by simp)]; rfl⟩
  | cons v r ih =>
    intro k off cs
    obtain ⟨h1, h2⟩ := ih (k + 1) off (cs.setIfInBounds (off + k) v)
    simp only [List.zipIdx_cons, List.foldl_cons]
    refine ⟨by rw [h1]; simp, fun hle i => ?_⟩
    simp only [List.length_cons] at hle
    rw [h2 (by simp; omega) i]
    by_cases e : i = off + k
    · subst e
      have hlt : off + k < cs.size := by clear h2; omega
      rw [if_neg (by omega), if_pos (by simp only [List.length_cons]; omega)]
      simp [hlt]
    · by_cases hi : off + (k + 1) ≤ i ∧ i < off + (k + 1) + r.length
      · rw [if_pos hi, if_pos (by simp only [List.length_cons]; omega)]
        obtain ⟨j, hj⟩ : ∃ j, i - (off + k) = j + 1 := ⟨i - (off + k) - 1, by omega⟩
        rw [hj, List.getElem?_cons_succ]
        congr 1
        omega
      · rw [if_neg hi, if_neg (by simp only [List.length_cons]; omega), Array.getElem?_setIfInBounds_ne (Ne.symm e)]
theorem splice_length {cells new : List AV} {off : Nat} (h : off + new.length ≤ cells.length) : (splice cells off new).length = cells.length := by
  unfold splice
  split
  · simp
  · simp; omega
theorem splice_get {cells new : List AV} {off : Nat} (h : off + new.length ≤ cells.length) (i : Nat) :
    (splice cells off new)[i]? = if off ≤ i ∧ i < off + new.length then new[i - off]? else cells[i]? := by
  unfold splice
  split
  · rename_i v
    simp only [List.length_cons, List.length_nil] at h
    by_cases e : i = off
    · subst e
      rw [if_pos (by simp), List.getElem?_set_self (by omega)]
      simp
    · rw [if_neg (by simp only [List.length_cons, List.length_nil]; omega), List.getElem?_set_ne (Ne.symm e)]
  · by_cases hi : off ≤ i ∧ i < off + new.length
    · rw [if_pos hi, List.getElem?_append_left (by simp; omega), List.getElem?_append_right (by simp; omega)]
      congr 1
      simp; omega
    · rw [if_neg hi]
      by_cases hlt : i < off
      · rw [List.getElem?_append_left (by simp; omega), List.getElem?_append_left (by simp; omega), List.getElem?_take, if_pos hlt]
      · rw [List.getElem?_append_right (by simp; omega), List.getElem?_drop]
        congr 1
        simp; omega
/-- A value's cells, one by one. -/
theorem cellsOf_rep {O : Nat → Prop} {v : AV} {c : Value} (h : Rep w O v c) {cs : List AV} (hc : cellsOf v = some cs) :
    RepL w O cs c.cells.toList ∧ ∀ x ∈ c.cells.toList, x.oneCell' = true := by
  have one : ∀ {v : AV} {c : Value}, Rep w O v c → c.cells = #[c] → c.oneCell' = true → RepL w O [v] c.cells.toList ∧ ∀ x ∈ c.cells.toList, x.oneCell' = true := by
    intro v c h h1 h2
    rw [h1]
    exact ⟨RepL.nil.cons h, by simpa using h2⟩
  cases h with
  | any _ => cases hc
  | tup _ _ _ _ => cases hc
  | agg cells as hl h1 hr =>
    simp only [cellsOf, Option.some.injEq] at hc
    subst hc
    refine ⟨⟨by simpa [Value.cells] using hl, fun i a v ha hv => hr i a v ha (by simpa [Value.cells] using hv)⟩, fun x hx => ?_⟩
    obtain ⟨i, hi⟩ := List.mem_iff_getElem?.1 hx
    exact h1 i x (by simpa [Value.cells] using hi)
  | int k n => cases hc; exact one (.int k n) rfl rfl
  | bool b => cases hc; exact one (.bool b) rfl rfl
  | str s => cases hc; exact one (.str s) rfl rfl
  | nilp => cases hc; exact one .nilp rfl rfl
  | ptr b o hk => cases hc; exact one (.ptr b o hk) rfl rfl
  | mpp r => cases hc; exact one (.mpp r) rfl rfl
  | yl l => cases hc; exact one (.yl l) rfl rfl
  | cp cells off b o cs hb hO hc' hr => cases hc; exact one (.cp cells off b o cs hb hO hc' hr) rfl rfl
  | nils => cases hc; exact one .nils rfl rfl
  | sl b off len cap hlc hk => cases hc; exact one (.sl b off len cap hlc hk) rfl rfl
  | sl0 b off a => cases hc; exact one (.sl0 b off a) rfl rfl
  | roe a cap => cases hc; exact one (.roe a cap) rfl rfl
  | ro cells len cap b o cs hlc hb hO hc' hr => cases hc; exact one (.ro cells len cap b o cs hlc hb hO hc' hr) rfl rfl
  | fn f first caps as cs hl hl' hr hr' => cases hc; exact one (.fn f first caps as cs hl hl' hr hr') rfl rfl
  | nilf => cases hc; exact one .nilf rfl rfl
theorem fill_one {O : Nat → Prop} {cells cs : List AV} {arr : Array Value} {c : Value} {off : Nat} (hc : Rep w O (.agg cells) (.agg arr)) (hr : RepL w O cs c.cells.toList) (h1 : ∀ x ∈ c.cells.toList, x.oneCell' = true)
    (hle : off + cs.length ≤ cells.length) : Rep w O (.agg (splice cells off cs)) (.agg (c.cells.zipIdx.foldl (fun cs (x : Value × Nat) => cs.setIfInBounds (off + x.2) x.1) arr)) := by
  obtain ⟨arr', he, hl, ha1, har⟩ := rep_agg hc
  cases he
  have hlen : cs.length = c.cells.toList.length := hr.1
  have hfold : c.cells.zipIdx.foldl (fun cs (x : Value × Nat) => cs.setIfInBounds (off + x.2) x.1) arr =
      (c.cells.toList.zipIdx 0).foldl (fun cs (x : Value × Nat) => cs.setIfInBounds (off + x.2) x.1) arr := by
    rw [← Array.foldl_toList]; simp
  rw [hfold]
  obtain ⟨f1, f2⟩ := foldl_set c.cells.toList 0 off arr
  have f3 := f2 (by omega)
  refine .agg _ _ (by rw [splice_length hle, f1, hl]) ?_ ?_
  · intro i x hx
    rw [f3 i] at hx
    split at hx
    · exact h1 x (List.mem_of_getElem? hx)
    · exact ha1 i x hx
  · intro i v x hv hx
    rw [f3 i] at hx
    rw [splice_get hle] at hv
    simp only [Nat.add_zero] at hx
    split at hv
    · rename_i hi
      rw [if_pos (by omega)] at hx
      exact hr.2 _ v x hv hx
    · rename_i hi
      rw [if_neg (by omega)] at hx
      exact har i v x hv hx
theorem afill_sound {O : Nat → Prop} {ρ : Env} {a : Act} {place : Nat → Option (Nat × Nat)} :
    ∀ (parts : List (Nat × Operand)) (ps : List (Nat × Nat × Operand)) (cells : List AV) (cs : Array Value) (out : List AV),
      parts.length = ps.length → (∀ (j : Nat) i x off n y, parts[j]? = some (i, x) → ps[j]? = some (off, n, y) → place i = some (off, n) ∧ y = x) →
      (∀ p ∈ parts, Rep w O (xv G ρ p.2) (a.eval p.2)) → Rep w O (.agg cells) (.agg cs) → afill (xv G ρ) cells ps = some out →
      ∃ cs' : Array Value, Instr.fill place cs (parts.map fun (i, x) => (i, a.eval x)) = some cs' ∧ Rep w O (.agg out) (.agg cs') := by
  intro parts
  induction parts with
  | nil =>
    intro ps cells cs out hl _ _ hc ho
    cases ps with
    | nil => simp [afill] at ho; subst ho; exact ⟨cs, by simp [Instr.fill], hc⟩
    | cons p r => simp at hl
  | cons p r ih =>
    intro ps cells cs out hl hp hx hc ho
    cases ps with
    | nil => simp at hl
    | cons q s =>
      obtain ⟨i, x⟩ := p
      obtain ⟨off, n, y⟩ := q
      obtain ⟨hpl, hyx⟩ := hp 0 i x off n y rfl rfl
      subst hyx
      have hrx := hx (i, y) (by simp)
      simp only [afill] at ho
      split at ho
      · rename_i vs hvs
        split at ho
        · rename_i hn
          obtain ⟨hr, h1⟩ := cellsOf_rep hrx hvs
          have hstep := fill_one (off := off) hc hr h1 (by omega)
          obtain ⟨arr', he, hl', _, _⟩ := rep_agg hc
          cases he
          obtain ⟨cs', hf, hout⟩ := ih s _ _ out (by simpa using hl) (fun j i x off n y h1 h2 => hp (j + 1) i x off n y (by simpa using h1) (by simpa using h2))
            (fun p hp' => hx p (by simp [hp'])) hstep ho
          refine ⟨cs', ?_, hout⟩
          simp only [List.map_cons, Instr.fill, hpl]
          have hsz : (a.eval y).cells.size = n := by have := hr.1; simp at this; omega
          rw [if_neg (by simp [hsz]; omega)]
          exact hf
        · cases ho
      · cases ho
end
end Go.Ab
