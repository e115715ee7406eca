/- A frame for walks over what values stand for, part Ab5. -/
import Derived.Test.YtknamhmjhmdikaaAb4
namespace Go.Ab
section
variable {P : Program} {w : World} {O : Nat → Prop}
theorem cellsEq_append : ∀ (ks ls : List CK) (a b c d : List AV) (t : Bool), a.length = ks.length → b.length = ks.length → cellsEq (ks ++ ls) (a ++ c) (b ++ d) = some t →
    ∃ t1 t2, cellsEq ks a b = some t1 ∧ cellsEq ls c d = some t2 ∧ t = (t1 && t2) := by
  intro ks
  induction ks with
  | nil =>
    intro ls a b c d t ha hb h
    cases a with
    | nil => cases b with
      | nil => exact ⟨true, t, rfl, h, by simp⟩
      | cons _ _ => simp at hb
    | cons _ _ => simp at ha
  | cons k ks ih =>
    intro ls a b c d t ha hb h
    cases a with
    | nil => simp at ha
    | cons x r =>
      cases b with
      | nil => simp at hb
      | cons y s =>
        have ha' : r.length = ks.length := by simpa using ha
        have hb' : s.length = ks.length := by simpa using hb
        simp only [List.cons_append] at h
        cases k <;> cases x <;> (try (simp only [cellsEq] at h; done)) <;> cases y <;> simp only [cellsEq] at h ⊢ <;> (try cases h) <;> (try split at h) <;> (try cases h) <;>
          (obtain ⟨u, hu, rfl⟩ := Option.map_eq_some_iff.1 h
           obtain ⟨t1, t2, h1, h2, rfl⟩ := ih ls r s c d u ha' hb' hu
           refine ⟨_, t2, ?_, h2, (Bool.and_assoc _ _ _).symm⟩
           simp [*])
theorem cellsEq_length : ∀ (ks : List CK) (a b : List AV) (t : Bool), cellsEq ks a b = some t → a.length = ks.length ∧ b.length = ks.length := by
  intro ks
  induction ks with
  | nil =>
    intro a b t h
    cases a <;> cases b <;> simp_all [cellsEq]
  | cons k ks ih =>
    intro a b t h
    cases a with
    | nil => cases k <;> simp [cellsEq] at h
    | cons x r =>
      cases b with
      | nil => cases k <;> cases x <;> simp [cellsEq] at h
      | cons y s =>
        have key : ∃ u, cellsEq ks r s = some u := by
          cases k <;> cases x <;> (try (simp [cellsEq] at h; done)) <;> cases y <;> simp only [cellsEq] at h <;> (try cases h) <;> (try split at h) <;> (try cases h) <;>
            (obtain ⟨u, hu, rfl⟩ := Option.map_eq_some_iff.1 h; exact ⟨u, hu⟩)
        obtain ⟨u, hu⟩ := key
        obtain ⟨h1, h2⟩ := ih r s u hu
        simp [h1, h2]
/-- An array of cells, cell by cell. -/
def Arr (w : World) (O : Nat → Prop) (xs : List AV) (cx : Array Value) : Prop := xs.length = cx.size ∧ ∀ (i : Nat) (v : AV) (c : Value), xs[i]? = some v → cx[i]? = some c → Rep w O v c
theorem Arr.extract {xs : List AV} {cx : Array Value} (h : Arr w O xs cx) (off n : Nat) : Arr w O ((xs.drop off).take n) (cx.extract off (off + n)) := by
  refine ⟨by simp [h.1]; omega, fun i v c hv hc => ?_⟩
  rw [Array.getElem?_extract] at hc
  rw [List.getElem?_take] at hv
  split at hc <;> split at hv
  · exact h.2 (off + i) v c (by simpa using hv) hc
  all_goals first | cases hv | cases hc
theorem shape_of_flat {d : Nat} {t : TypeId} {n : List CK} (h : flat P d t = some n) :
    (((P.underlying t = some .bool ∧ n = [.b]) ∨ (P.underlying t = some .string ∧ n = [.s]) ∨ (∃ k, P.underlying t = some (.int k) ∧ n = [.i])) ∧ (isAgg t).run P w = .ok false w) ∨
    ((isAgg t).run P w = .ok true w ∧ (sizeOf t).run P w = .ok n.length w ∧ ∃ e d', d = d' + 1 ∧
      ((∃ fs, P.underlying t = some (.struct fs) ∧ flatFields P (flat P d') [] fs.toList = some n ∧ P.stoodInHeld t = false) ∨
       (∃ k m, P.underlying t = some (.array k e) ∧ flat P d' e = some m ∧ szOf P e = some m.length ∧ n = (List.replicate k m).flatten))) := by
  cases d with
  | zero => simp [flat] at h
  | succ d =>
    cases hu : P.underlying t with
    | none => simp [flat, hu] at h
    | some u =>
      have ha := run_agg_of (P := P) (w := w) hu
      cases u <;> simp only [flat, hu] at h <;> try (simp at h; done)
      case bool => simp at h; subst h; exact .inl ⟨.inl ⟨rfl, rfl⟩, ha⟩
      case int k => simp at h; subst h; exact .inl ⟨.inr (.inr ⟨k, rfl, rfl⟩), ha⟩
      case string => simp at h; subst h; exact .inl ⟨.inr (.inl ⟨rfl, rfl⟩), ha⟩
      case struct fs =>
        split at h
        · rename_i m hm
          split at h
          · rename_i hc
            simp at h; subst h
            exact .inr ⟨ha, run_sz hc.1, t, d, rfl, .inl ⟨fs, rfl, hm, hc.2⟩⟩
          · simp at h
        · simp at h
      case array k e =>
        split at h
        · rename_i m hm
          split at h
          · rename_i hc
            simp at h; subst h
            exact .inr ⟨ha, by simpa [List.length_flatten] using run_sz hc.2, e, d, rfl, .inr ⟨k, m, rfl, hm, hc.1, rfl⟩⟩
          · simp at h
        · simp at h
/-- The rounds over an array's elements. -/
def eqElems (D : Nat) (e : TypeId) (n : Nat) (xs ys : Array Value) : List Nat → Sem Bool
  | [] => pure true
  | i :: r => do
    let a ← part e xs (i * n)
    let b ← part e ys (i * n)
    let t ← Op.equalIn D e a b
    if (!t) = true then pure false else eqElems D e n xs ys r
theorem run_equalIn_array (D : Nat) (t e : TypeId) (k n : Nat) (xs ys : Array Value) (ht : P.underlying t = some (.array k e)) (hs : szOf P e = some n) :
    (Op.equalIn (D + 1) t (.agg xs) (.agg ys)).run P w = (eqElems D e n xs ys (List.range k)).run P w := by
  simp only [Op.equalIn, Sem.run_bind, run_underlying ht, Result.andThen_ok, run_sz hs]
  have hl : List.range' 0 k 1 = List.range k := by rw [List.range_eq_range']
  simp only [Std.Legacy.Range.forIn_eq_forIn_range', Std.Legacy.Range.size, Nat.sub_zero, Nat.add_sub_cancel, Nat.div_one, hl]
  generalize List.range k = l
  induction l generalizing w with
  | nil => simp [eqElems]
  | cons i r ih =>
    simp only [List.forIn_cons, eqElems, Sem.run_bind]
    generalize (part e xs (i * n)).run P w = r1
    cases r1 with
    | ok a w1 =>
      simp only [Result.andThen_ok]
      generalize (part e ys (i * n)).run P w1 = r2
      cases r2 with
      | ok b w2 =>
        simp only [Result.andThen_ok]
        generalize (Op.equalIn D e a b).run P w2 = r3
        cases r3 with
        | ok r w3 =>
          cases r
          · simp
          · simp only [Result.andThen_ok, Bool.not_true, Bool.false_eq_true, if_false, Sem.run_pure]
            exact ih
        | halt x w3 => simp [Result.andThen]
      | halt x w2 => simp [Result.andThen]
    | halt x w1 => simp [Result.andThen]
theorem flatFields_prefix (rec : TypeId → Option (List CK)) : ∀ (fs : List Field) (n out : List CK), flatFields P rec n fs = some out → ∃ r, out = n ++ r := by
  intro fs
  induction fs with
  | nil => intro n out h; simp [flatFields] at h; exact ⟨[], by simp [h]⟩
  | cons f fs ih =>
    intro n out h
    simp only [flatFields] at h
    split at h
    · split at h
      · obtain ⟨r, hr⟩ := ih _ _ h
        exact ⟨_, by rw [hr, List.append_assoc]⟩
      · cases h
    · cases h
theorem eq_flat : ∀ (d : Nat) (t : TypeId) (n : List CK), flat P d t = some n → ∀ (D : Nat), d ≤ D → ∀ (off : Nat) (xs ys : List AV) (cx cy : Array Value) (b : Bool),
    Arr w O xs cx → Arr w O ys cy → cellsEq n ((xs.drop off).take n.length) ((ys.drop off).take n.length) = some b →
    ∃ vx vy, (part t cx off).run P w = .ok vx w ∧ (part t cy off).run P w = .ok vy w ∧ (Op.equalIn D t vx vy).run P w = .ok b w := by
  intro d
  induction d with
  | zero => intro t n h; simp [flat] at h
  | succ d ih =>
    intro t n hfl D hD off xs ys cx cy b hx hy he
    obtain ⟨D, rfl⟩ : ∃ D', D = D' + 1 := ⟨D - 1, by omega⟩
    obtain ⟨l1, l2⟩ := cellsEq_length _ _ _ _ he
    rcases shape_of_flat (w := w) hfl with ⟨hs, ha⟩ | ⟨ha, hsz, e, d', hd, hs⟩
    · have hn : n.length = 1 := by rcases hs with ⟨_, rfl⟩ | ⟨_, rfl⟩ | ⟨_, _, rfl⟩ <;> rfl
      rw [hn] at l1 l2 he
      have hox : off < xs.length := by simp at l1; omega
      have hoy : off < ys.length := by simp at l2; omega
      have e1 : (xs.drop off).take 1 = [xs[off]] := by rw [List.drop_eq_getElem_cons hox]; rfl
      have e2 : (ys.drop off).take 1 = [ys[off]] := by rw [List.drop_eq_getElem_cons hoy]; rfl
      have hcx : cx[off]? = some (cx[off]'(by have := hx.1; omega)) := Array.getElem?_eq_getElem _
      have hcy : cy[off]? = some (cy[off]'(by have := hy.1; omega)) := Array.getElem?_eq_getElem _
      have rx := hx.2 off _ _ (List.getElem?_eq_getElem hox) hcx
      have ry := hy.2 off _ _ (List.getElem?_eq_getElem hoy) hcy
      rw [e1, e2] at he
      refine ⟨_, _, by simp [part, ha, hcx]; rfl, by simp [part, ha, hcy]; rfl, ?_⟩
      generalize xs[off] = x at he rx
      generalize ys[off] = y at he ry
      rcases hs with ⟨hu, rfl⟩ | ⟨hu, rfl⟩ | ⟨k, hu, rfl⟩
      · cases x <;> cases y <;> simp [cellsEq] at he
        subst he
        rw [rep_bool rx, rep_bool ry]
        exact run_equalIn_bool' w D t _ _ hu
      · cases x <;> cases y <;> simp [cellsEq] at he
        subst he
        rw [rep_str rx, rep_str ry, run_equalIn_string w D t _ _ hu, beq_toListBytes]
      · cases x <;> cases y <;> simp [cellsEq] at he
        obtain ⟨rfl, rfl⟩ := he
        rw [rep_int rx, rep_int ry]
        exact run_equalIn_int w D t _ _ _ _ hu
    · obtain rfl : d = d' := by omega
      have hX := hx.extract off n.length
      have hY := hy.extract off n.length
      refine ⟨.agg (cx.extract off (off + n.length)), .agg (cy.extract off (off + n.length)), by simp [part, ha, hsz], by simp [part, ha, hsz], ?_⟩
      generalize (xs.drop off).take n.length = X at *
      generalize (ys.drop off).take n.length = Y at *
      generalize cx.extract off (off + n.length) = CX at *
      generalize cy.extract off (off + n.length) = CY at *
      rcases hs with ⟨fs, hu, hff, hst⟩ | ⟨k, m, hu, hm, hme, rfl⟩
      · have hfo : P.fieldsOf t = fs := by simp [Program.fieldsOf, hu]
        rw [run_equalIn_struct w D t CX CY (by rw [hfo]; exact hu) hst, hfo]
        have key : ∀ (l : List Field) (pre out : List CK) (b : Bool), flatFields P (flat P d) pre l = some out → cellsEq (out.drop pre.length) (X.drop pre.length) (Y.drop pre.length) = some b →
            (Op.eqFields D CX CY l).run P w = .ok b w := by
          intro l
          induction l with
          | nil =>
            intro pre out b h1 h2
            simp [flatFields] at h1
            subst h1
            obtain ⟨z1, z2⟩ := cellsEq_length _ _ _ _ h2
            simp only [List.drop_length, List.length_nil] at z1 z2 h2
            rw [List.eq_nil_of_length_eq_zero z1, List.eq_nil_of_length_eq_zero z2] at h2
            simp [cellsEq] at h2
            subst h2
            simp [Op.eqFields]
          | cons f l ihl =>
            intro pre out b h1 h2
            simp only [flatFields] at h1
            split at h1
            · rename_i m hm
              split at h1
              · rename_i hc
                obtain ⟨r, hr⟩ := flatFields_prefix _ _ _ _ h1
                have eo : out.drop pre.length = m ++ r := by rw [hr]; simp
                rw [eo] at h2
                obtain ⟨z1, z2⟩ := cellsEq_length _ _ _ _ h2
                simp only [List.length_append] at z1 z2
                rw [← List.take_append_drop m.length (X.drop pre.length), ← List.take_append_drop m.length (Y.drop pre.length)] at h2
                obtain ⟨t1, t2, q1, q2, rfl⟩ := cellsEq_append m r _ _ _ _ _ (by simp at z1 ⊢; omega) (by simp at z2 ⊢; omega) h2
                obtain ⟨vx, vy, p1, p2, p3⟩ := ih f.type m hm D (by omega) f.offset X Y CX CY t1 hX hY (by rw [hc.2.1]; exact q1)
                have hrest := ihl (pre ++ m) out t2 h1 (by
                  have : out.drop (pre ++ m).length = r := by rw [hr, List.drop_left]
                  rw [this]
                  simpa [List.drop_drop] using q2)
                simp only [Op.eqFields, if_pos hc.1, Sem.run_bind, p1, p2, p3, Result.andThen_ok, Sem.run_ite]
                cases t1
                · simp
                · simpa using hrest
              · cases h1
            · cases h1
        exact key fs.toList [] n b hff (by simpa using he)
      · rw [run_equalIn_array D t e k m.length CX CY hu hme]
        have key : ∀ (c i : Nat) (b : Bool), cellsEq ((List.replicate c m).flatten) (X.drop (i * m.length)) (Y.drop (i * m.length)) = some b →
            (eqElems D e m.length CX CY (List.range' i c)).run P w = .ok b w := by
          intro c
          induction c with
          | zero =>
            intro i b h2
            obtain ⟨z1, z2⟩ := cellsEq_length _ _ _ _ h2
            simp only [List.replicate_zero, List.flatten_nil, List.length_nil] at z1 z2 h2
            rw [List.eq_nil_of_length_eq_zero z1, List.eq_nil_of_length_eq_zero z2] at h2
            simp [cellsEq] at h2
            subst h2
            simp [eqElems]
          | succ c ihc =>
            intro i b h2
            rw [List.replicate_succ, List.flatten_cons] at h2
            obtain ⟨z1, z2⟩ := cellsEq_length _ _ _ _ h2
            simp only [List.length_append] at z1 z2
            rw [← List.take_append_drop m.length (X.drop (i * m.length)), ← List.take_append_drop m.length (Y.drop (i * m.length))] at h2
            obtain ⟨t1, t2, q1, q2, rfl⟩ := cellsEq_append m _ _ _ _ _ _ (by simp at z1 ⊢; omega) (by simp at z2 ⊢; omega) h2
            obtain ⟨vx, vy, p1, p2, p3⟩ := ih e m hm D (by omega) (i * m.length) X Y CX CY t1 hX hY q1
            have hrest := ihc (i + 1) t2 (by simpa [List.drop_drop, Nat.succ_mul] using q2)
            rw [List.range'_succ]
            simp only [eqElems, Sem.run_bind, p1, p2, p3, Result.andThen_ok, Sem.run_ite]
            cases t1
            · simp
            · simpa using hrest
        have := key k 0 b (by simpa using he)
        rwa [← List.range_eq_range'] at this
theorem aeq_sound {t : TypeId} {ks : List CK} (hf : flat P 50 t = some ks) (hg : P.eqGuardType P.depth t = false) {neg : Bool} {x y v : AV} (hv : aeq neg ks x y = some v) {c d : Value}
    (hx : Rep w O x c) (hy : Rep w O y d) (o1 o2 : Operand) (hagg : (isAgg t).run P w = .ok true w) :
    ∃ r, (do eqGuard (if neg then .neq else .eql) t o1 o2 c d; binOp (if neg then .neq else .eql) t c d : Sem Value).run P w = .ok r w ∧ Rep w O v r := by
  unfold aeq at hv
  split at hv
  · rename_i xs ys
    obtain ⟨b, hb, rfl⟩ := Option.map_eq_some_iff.1 hv
    obtain ⟨cx, rfl, lx, _, rx⟩ := rep_agg hx
    obtain ⟨cy, rfl, ly, _, ry⟩ := rep_agg hy
    obtain ⟨z1, z2⟩ := cellsEq_length _ _ _ _ hb
    obtain ⟨vx, vy, p1, p2, p3⟩ := eq_flat 50 t ks hf 10000 (by omega) 0 xs ys cx cy b ⟨lx, rx⟩ ⟨ly, ry⟩ (by simpa [List.take_of_length_le, z1, z2] using hb)
    rcases shape_of_flat (w := w) hf with ⟨_, ha⟩ | ⟨_, hsz, _⟩
    · rw [ha] at hagg; cases hagg
    · have ex : cx.extract 0 (0 + ks.length) = cx := by rw [Nat.zero_add, ← z1, lx, Array.extract_size]
      have ey : cy.extract 0 (0 + ks.length) = cy := by rw [Nat.zero_add, ← z2, ly, Array.extract_size]
      simp only [part, Sem.run_bind, hagg, Result.andThen_ok, hsz, ex, if_true, Sem.run_pure, Result.ok.injEq, and_true] at p1
      simp only [part, Sem.run_bind, hagg, Result.andThen_ok, hsz, ey, if_true, Sem.run_pure, Result.ok.injEq, and_true] at p2
      subst p1
      subst p2
      cases neg
      · exact ⟨.bool b, by simp only [Bool.false_eq_true, if_false, Sem.run_bind, run_eqGuard_agg w _ _ _ _ _ _ hg, Result.andThen_ok, run_eql_struct, p3], by simpa using Rep.bool b⟩
      · exact ⟨.bool (!b), by simp only [if_true, Sem.run_bind, run_eqGuard_agg w _ _ _ _ _ _ hg, Result.andThen_ok, run_neq_struct, p3], by
          have : (b != true) = !b := by cases b <;> rfl
          rw [this]; exact .bool _⟩
  · cases hv
end
end Go.Ab
