/- A frame for walks over what values stand for, part Ab3. -/
import Derived.Test.YtknamhmjhmdikaaAb2
namespace Go.Ab
section
variable {P : Program} {G : Glo} {w : World} {O : Nat → Prop}
theorem rep_int {k : IntKind} {n : Int} {c : Value} (h : Rep w O (.int k n) c) : c = .int k n := by cases h; rfl
theorem rep_bool {b : Bool} {c : Value} (h : Rep w O (.bool b) c) : c = .bool b := by cases h; rfl
theorem rep_str {s : ByteArray} {c : Value} (h : Rep w O (.str s) c) : c = .string s := by cases h; rfl
theorem rep_ptr {b o : Nat} {c : Value} (h : Rep w O (.ptr b o) c) : c = .pointer (some ⟨b, o, none⟩) := by cases h; rfl
theorem rep_ptrC {b o : Nat} {c : Value} (h : Rep w O (.ptr b o) c) : isC w b := by cases h; assumption
theorem rep_slC {b o n m : Nat} {c : Value} (h : Rep w O (.sl b o n m) c) (hn : ¬ (n = 0 ∧ m = 0)) : isC w b := by
  cases h with
  | sl _ _ _ _ hlc hk => exact hk
  | sl0 _ _ a => exact absurd ⟨rfl, rfl⟩ hn
theorem rep_mpp {r : Option Nat} {c : Value} (h : Rep w O (.mpp r) c) : c = .map r := by cases h; rfl
theorem rep_yl {l : Nat} {c : Value} (h : Rep w O (.yl l) c) : c = .func (.yield l) #[] #[] := by cases h; rfl
theorem rep_nilp {c : Value} (h : Rep w O .nilp c) : c = .pointer none := by cases h; rfl
theorem rep_nilf {c : Value} (h : Rep w O .nilf c) : c = .nilFunc := by cases h; rfl
theorem rep_nils {c : Value} (h : Rep w O .nils c) : c = .slice none 0 0 := by cases h; rfl
theorem rep_sl {b o n m : Nat} {c : Value} (h : Rep w O (.sl b o n m) c) : ∃ a, c = .slice (some a) n m ∧ n ≤ m ∧ ((n = 0 ∧ m = 0) ∨ a = ⟨b, o, none⟩) := by
  cases h with
  | sl _ _ _ _ hlc _ => exact ⟨_, rfl, hlc, .inr rfl⟩
  | sl0 _ _ a => exact ⟨a, rfl, Nat.le_refl _, .inl ⟨rfl, rfl⟩⟩
theorem rep_cp {cells : List AV} {off : Nat} {c : Value} (h : Rep w O (.cp cells off) c) :
    ∃ (b o : Nat) (cs : Nat → Value), c = .pointer (some ⟨b, o + off, none⟩) ∧ b < w.heap.size ∧ ¬ O b ∧
      (∀ i v, cells[i]? = some v → w.cell? ⟨b, o + i, none⟩ = some (cs i) ∧ (cs i).oneCell' = true) ∧ (∀ i v, cells[i]? = some v → Rep w O v (cs i)) := by
  cases h with
  | cp _ _ b o cs hb hO hc hr => exact ⟨b, o, cs, rfl, hb, hO, hc, hr⟩
theorem rep_agg {cells : List AV} {c : Value} (h : Rep w O (.agg cells) c) :
    ∃ cs : Array Value, c = .agg cs ∧ cells.length = cs.size ∧ (∀ (i : Nat) (c : Value), cs[i]? = some c → c.oneCell' = true) ∧
      (∀ (i : Nat) (v : AV) (c : Value), cells[i]? = some v → cs[i]? = some c → Rep w O v c) := by
  cases h with
  | agg _ cs hl h1 hr => exact ⟨cs, rfl, hl, h1, hr⟩
theorem rep_tup {vs : List AV} {c : Value} (h : Rep w O (.tup vs) c) :
    ∃ cs : Array Value, c = .tuple cs ∧ vs.length = cs.size ∧ (∀ (i : Nat) (v : AV) (c : Value), vs[i]? = some v → cs[i]? = some c → Rep w O v c) := by
  cases h with
  | tup _ cs hl hr => exact ⟨cs, rfl, hl, hr⟩
theorem rep_fn {f : Nat} {first caps : List AV} {c : Value} (h : Rep w O (.fn f first caps) c) :
    ∃ as cs : Array Value, c = .func (.func f) as cs ∧ RepL w O first as.toList ∧ RepL w O caps cs.toList := by
  cases h with
  | fn _ _ _ as cs hl hl' hr hr' => exact ⟨as, cs, rfl, ⟨by simpa using hl, fun i a v ha hv => hr i a v ha (by simpa using hv)⟩, ⟨by simpa using hl', fun i a v ha hv => hr' i a v ha (by simpa using hv)⟩⟩
theorem rep_ro {cells : List AV} {len : Nat} {c : Value} (h : Rep w O (.ro cells len) c) :
    ∃ (a : Option Addr) (cap : Nat), c = .slice a len cap ∧ len ≤ cap ∧ ((cells = [] ∧ len = 0) ∨ ∃ (b o : Nat) (cs : Nat → Value), a = some ⟨b, o, none⟩ ∧ b < w.heap.size ∧ ¬ O b ∧
      (∀ i v, cells[i]? = some v → w.cell? ⟨b, o + i, none⟩ = some (cs i) ∧ (cs i).oneCell' = true) ∧ (∀ i v, cells[i]? = some v → Rep w O v (cs i))) := by
  cases h with
  | roe a cap => exact ⟨a, cap, rfl, Nat.zero_le _, .inl ⟨rfl, rfl⟩⟩
  | ro _ _ cap b o cs hlc hb hO hc hr => exact ⟨_, cap, rfl, hlc, .inr ⟨b, o, cs, rfl, hb, hO, hc, hr⟩⟩

theorem rep_ofV1 (v : Value) : Rep w O (ofV1 v) v := by
  unfold ofV1
  split <;> first | exact .int _ _ | exact .bool _ | exact .str _ | exact .nilp | exact .nils | exact .nilf | exact .mpp _ | exact .any _
theorem rep_ofV (v : Value) : Rep w O (ofV v) v := by
  unfold ofV
  split
  · rename_i cs
    split
    · rename_i h
      refine .agg _ cs (by simp) (fun i c hc => ?_) (fun i a c ha hc => ?_)
      · exact List.all_eq_true.1 h c (Array.mem_toList_iff.2 (Array.mem_of_getElem? hc))
      · have hc' : cs.toList[i]? = some c := by simpa using hc
        have : a = ofV1 c := by simpa [List.getElem?_map, hc'] using ha.symm
        rw [this]; exact rep_ofV1 c
    · exact .any _
  · exact rep_ofV1 _

/-- The slots of an activation are as they are told. -/
def ERep (w : World) (O : Nat → Prop) (ρ : Env) (a : Act) : Prop := ∀ i, Rep w O (lk ρ i) (a.tmps.getD i undef)
theorem rep_xv {ρ : Env} {a : Act} (hg : GRep G w O) (he : ERep w O ρ a) (x : Operand) : Rep w O (xv G ρ x) (a.eval x) := by
  cases x with
  | tmp t => exact he t
  | const v => exact rep_ofV v
  | global g => exact hg.1 g
  | func f => exact .fn f [] [] #[] #[] rfl rfl (fun i v c h => by simp at h) (fun i v c h => by simp at h)
theorem ERep.keep {w' : World} {O' : Nat → Prop} {ρ : Env} {a : Act} (hk : Keeps w O w' O') (h : ERep w O ρ a) : ERep w' O' ρ a := fun i => (h i).keep hk
theorem lk_put (d : Option Nat) (v : AV) (ρ : Env) (i : Nat) : lk (put d v ρ) i = if d = some i then v else lk ρ i := by
  cases d with
  | none => simp [put]
  | some d =>
    simp only [put, lk]
    by_cases h : i = d
    · subst h; simp
    · have hb : (i == d) = false := by simpa using h
      simp [hb, Ne.symm h]
theorem ERep.put {ρ : Env} {a : Act} (h : ERep w O ρ a) {d : Option Nat} (hd : ∀ i, d = some i → i < a.tmps.size) {v : AV} {c : Value} (hv : Rep w O v c) :
    ERep w O (Ab.put d v ρ) (a.put d c) := by
  intro i
  rw [lk_put]
  cases d with
  | none => simpa [Act.put] using h i
  | some d =>
    by_cases hi : d = i
    · subst hi
      have := hd d rfl
      simp [Act.put, Array.getD_eq_getD_getElem?, this]; exact hv
    · simp only [Option.some.injEq, hi, if_false, Act.put]
      have h' := h i
      rw [Array.getD_eq_getD_getElem?, Array.getElem?_setIfInBounds_ne hi, ← Array.getD_eq_getD_getElem?]
      exact h'
theorem rep_undef : Rep w O (.tup []) undef := .tup [] #[] rfl (fun i v c h => by simp at h)
end

section types
variable {P : Program} {w : World}
theorem run_sz {t : TypeId} {n : Nat} (h : szOf P t = some n) : (sizeOf t).run P w = .ok n w := by
  unfold szOf at h
  cases hi : P.info? t with
  | none => simp [hi] at h
  | some i => simp [hi] at h; simp [sizeOf, run_typeInfo w hi, h]
theorem run_agg_of {t : TypeId} {d : TypeDesc} (h : P.underlying t = some d) :
    (isAgg t).run P w = .ok (match d with | .struct _ => true | .array _ _ => true | _ => false) w := by
  cases d <;> simp [isAgg, run_underlying h]
theorem run_shape_none {t : TypeId} (h : shapeOf P t = some none) : (isAgg t).run P w = .ok false w := by
  unfold shapeOf at h
  cases hu : P.underlying t with
  | none => simp [hu] at h
  | some d =>
    rw [run_agg_of hu]
    cases d <;> simp_all
theorem run_shape_some {t : TypeId} {n : Nat} (h : shapeOf P t = some (some n)) : (isAgg t).run P w = .ok true w ∧ (sizeOf t).run P w = .ok n w := by
  unfold shapeOf at h
  cases hu : P.underlying t with
  | none => simp [hu] at h
  | some d =>
    rw [run_agg_of hu]
    cases d <;> simp_all <;> exact run_sz h
end types

section memory
variable {P : Program} {w : World}
/-- At a block and an offset lie these cells. -/
def At (w : World) (O : Nat → Prop) (b o : Nat) (cells : List AV) : Prop :=
  ∀ (i : Nat) (v : AV), cells[i]? = some v → ∃ cv, w.cell? ⟨b, o + i, none⟩ = some cv ∧ cv.oneCell' = true ∧ Rep w O v cv
theorem HRep.at {h : Heap} (hh : HRep w h) {b : Nat} {x : Blk} (hb : h b = some x) (hk : isC w b) : At w h.dom b 0 x.cells := by
  intro i v hv
  obtain ⟨c, t, hw, _, hc⟩ := hh.cells hb hk
  obtain ⟨cv, h1, h2, h3⟩ := hc i v hv
  exact ⟨cv, by simp [World.cell?, hw, h1], h2, h3⟩
theorem At.drop {O : Nat → Prop} {b o : Nat} {cells : List AV} (h : At w O b o cells) (k : Nat) : At w O b (o + k) (cells.drop k) := by
  intro i v hv
  obtain ⟨cv, h1, h2, h3⟩ := h (k + i) v (by simpa using hv)
  exact ⟨cv, by rw [Nat.add_assoc]; exact h1, h2, h3⟩
theorem At.take {O : Nat → Prop} {b o : Nat} {cells : List AV} (h : At w O b o cells) (k : Nat) : At w O b o (cells.take k) := by
  intro i v hv
  rw [List.getElem?_take] at hv
  split at hv
  · exact h i v hv
  · cases hv
theorem At.list {O : Nat → Prop} {b o : Nat} {cells : List AV} (h : At w O b o cells) :
    ∃ cs : List Value, cs.length = cells.length ∧ (∀ j v, cs[j]? = some v → w.cell? ⟨b, o + j, none⟩ = some v) ∧ (∀ v ∈ cs, v.oneCell' = true) ∧ RepL w O cells cs := by
  induction cells generalizing o with
  | nil => exact ⟨[], rfl, fun j v h => by simp at h, fun v h => by simp at h, .nil⟩
  | cons a r ih =>
    obtain ⟨cv, h1, h2, h3⟩ := h 0 a rfl
    obtain ⟨cs, e1, e2, e3, e4⟩ := ih (o := o + 1) (by simpa using h.drop 1)
    refine ⟨cv :: cs, by simp [e1], fun j v hv => ?_, fun v hv => ?_, e4.cons h3⟩
    · cases j with
      | zero => simp at hv; subst hv; exact h1
      | succ j => simp at hv; have := e2 j v hv; rwa [show o + (j + 1) = o + 1 + j by omega]
    · cases hv with
      | head => exact h2
      | tail _ hv => exact e3 v hv
theorem RepL.agg {O : Nat → Prop} {cells : List AV} {cs : List Value} (h : RepL w O cells cs) (h1 : ∀ v ∈ cs, v.oneCell' = true) : Rep w O (.agg cells) (.agg cs.toArray) :=
  .agg _ _ (by simp [h.1]) (fun i c hc => h1 c (List.mem_of_getElem? (by simpa using hc))) (fun i v c hv hc => h.2 i v c hv (by simpa using hc))
theorem At.loadCells {O : Nat → Prop} {b o : Nat} {cells : List AV} (h : At w O b o cells) :
    ∃ cs : List Value, cs.length = cells.length ∧ (loadCells ⟨b, o, none⟩ cells.length).run P w = .ok cs.toArray w ∧ (∀ v ∈ cs, v.oneCell' = true) ∧ RepL w O cells cs := by
  obtain ⟨cs, e1, e2, e3, e4⟩ := h.list
  refine ⟨cs, e1, ?_, e3, e4⟩
  rw [← e1]
  exact run_loadCells_list w _ cs fun j v hv => by rw [Addr.add_lit]; exact e2 j v hv
/-- A part of known cells, loaded. -/
theorem At.part {O : Nat → Prop} {b o : Nat} {cells : List AV} (h : At w O b o cells) {off : Nat} {n : Option Nat} {v : AV} (hv : partOf cells off n = some v) {t : TypeId} (ht : shapeOf P t = some n) :
    ∃ c, (loadVar t ⟨b, o + off, none⟩).run P w = .ok c w ∧ Rep w O v c := by
  cases n with
  | none =>
    obtain ⟨cv, h1, _, h3⟩ := h off v hv
    exact ⟨cv, by simp [loadVar, run_shape_none ht, h1], h3⟩
  | some n =>
    simp only [partOf] at hv
    split at hv
    · rename_i hle
      simp only [Option.some.injEq] at hv
      subst hv
      obtain ⟨ha, hs⟩ := run_shape_some (w := w) ht
      have hd := (h.drop off).take n
      have hlen : ((cells.drop off).take n).length = n := by simp; omega
      obtain ⟨cs, e1, e2, e3, e4⟩ := hd.loadCells (P := P)
      rw [hlen] at e2
      exact ⟨.agg cs.toArray, by simp [loadVar, ha, hs, e2], e4.agg e3⟩
    · cases hv
theorem rep_cp_at {O : Nat → Prop} {cells : List AV} {off : Nat} {c : Value} (h : Rep w O (.cp cells off) c) :
    ∃ b o, c = .pointer (some ⟨b, o + off, none⟩) ∧ At w O b o cells := by
  obtain ⟨b, o, cs, hc, _, _, h1, h2⟩ := rep_cp h
  exact ⟨b, o, hc, fun i v hv => ⟨cs i, (h1 i v hv).1, (h1 i v hv).2, h2 i v hv⟩⟩
theorem ald_sound {h : Heap} (hh : HRep w h) {n : Option Nat} {a v : AV} (hv : ald h n a = some v) {c : Value} (hc : Rep w h.dom a c) {t : TypeId} (ht : shapeOf P t = some n) :
    ∃ c', (Instr.loadAt t c).run P w = .ok c' w ∧ Rep w h.dom v c' := by
  unfold ald at hv
  split at hv
  · rename_i b o
    split at hv
    · rename_i x hb
      have hk := rep_ptrC hc
      rw [rep_ptr hc]
      obtain ⟨c', h1, h2⟩ := (hh.at hb hk).part hv ht
      exact ⟨c', by simpa [Instr.loadAt, Instr.sureAddr] using h1, h2⟩
    · cases hv
  · rename_i cells o
    obtain ⟨b, o', hc', hat⟩ := rep_cp_at hc
    rw [hc']
    obtain ⟨c', h1, h2⟩ := hat.part hv ht
    exact ⟨c', by simpa [Instr.loadAt, Instr.sureAddr] using h1, h2⟩
  · cases hv
/-- A part of a value that is at hand. -/
theorem run_part_of {O : Nat → Prop} {cells : List AV} {c : Value} (h : Rep w O (.agg cells) c) {off : Nat} {n : Option Nat} {v : AV} (hv : partOf cells off n = some v) {t : TypeId} (ht : shapeOf P t = some n) :
    ∃ cs c', c = .agg cs ∧ (part t cs off).run P w = .ok c' w ∧ Rep w O v c' := by
  obtain ⟨cs, hc, hl, h1, hr⟩ := rep_agg h
  cases n with
  | none =>
    have hlt : off < cells.length := by
      unfold partOf at hv
      exact (List.getElem?_eq_some_iff.1 hv).1
    have hcs : cs[off]? = some cs[off] := Array.getElem?_eq_getElem (by omega)
    exact ⟨cs, cs[off], hc, by simp [part, run_shape_none ht, hcs], hr off v _ hv hcs⟩
  | some n =>
    simp only [partOf] at hv
    split at hv
    · rename_i hle
      simp only [Option.some.injEq] at hv
      subst hv
      obtain ⟨ha, hs⟩ := run_shape_some (w := w) ht
      refine ⟨cs, .agg (cs.extract off (off + n)), hc, by simp [part, ha, hs], .agg _ _ ?_ ?_ ?_⟩
      · simp; omega
      · intro i c hc
        rw [Array.getElem?_extract] at hc
        split at hc
        · exact h1 _ c hc
        · cases hc
      · intro i v c hv hc
        rw [Array.getElem?_extract] at hc
        rw [List.getElem?_take] at hv
        split at hc <;> split at hv
        · exact hr (off + i) v c (by simpa using hv) hc
        all_goals first | cases hv | cases hc
    · cases hv
end memory
end Go.Ab
