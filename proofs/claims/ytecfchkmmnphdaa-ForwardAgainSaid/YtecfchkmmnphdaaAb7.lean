/- A frame for walks over what values stand for, part Ab7. -/
import Derived.Test.YtecfchkmmnphdaaAb6
namespace Go.Ab
section
variable {P : Program} {G : Glo} {w : World}
theorem hrep_alloc {h : Heap} (hh : HRep w h) {w1 : World} {c : Array Value} {t : TypeId} (hw : w1.heap = w.heap.push (.cells c t (0, 0))) (hsm : w1.os = w.os ∧ w1.tape = w.tape ∧ w1.output = w.output) {x : Blk} (hl : x.cells.length + x.spare = c.size)
    (hc : ∀ (i : Nat) (v : AV), x.cells[i]? = some v → ∃ cv, c[i]? = some cv ∧ cv.oneCell' = true ∧ Rep w h.dom v cv) :
    h w.heap.size = none ∧ HRep w1 (upd h w.heap.size x) ∧ Fr w h w1 (upd h w.heap.size x) := by
  have hn : h w.heap.size = none := by
    cases e : h w.heap.size with
    | none => rfl
    | some y =>
      obtain ⟨c', t', h1, _⟩ := hh _ y e
      simp at h1
  have hf : Fr w h w1 (upd h w.heap.size x) := by
    refine ⟨by rw [hw]; simp, fun b hb e => ⟨?_, ?_⟩, hsm.1, hsm.2.1, hsm.2.2⟩
    · have : b ≠ w.heap.size := by omega
      simp [upd, this, e]
    · rw [hw, Array.getElem?_push_lt hb, Array.getElem?_eq_getElem hb]
  refine ⟨hn, fun b y hy => ?_, hf⟩
  unfold upd at hy
  split at hy
  · rename_i e
    cases hy
    subst e
    refine ⟨c, t, by rw [hw]; simp, hl, fun i v hv => ?_⟩
    obtain ⟨cv, h1, h2, h3⟩ := hc i v hv
    exact ⟨cv, h1, h2, h3.keep hf.keeps⟩
  · rename_i e
    obtain ⟨c', t', h1, h2, h3⟩ := hh b y hy
    have hb : b < w.heap.size := (Array.getElem?_eq_some_iff.1 h1).1
    refine ⟨c', t', by rw [hw, Array.getElem?_push_lt hb, ← Array.getElem?_eq_getElem hb]; exact h1, h2, fun i v hv => ?_⟩
    obtain ⟨cv, h4, h5, h6⟩ := h3 i v hv
    exact ⟨cv, h4, h5, h6.keep hf.keeps⟩
theorem setRow_other (w : World) (g : Nat) (cs : Array Value) {b : Nat} (hb : b ≠ g) : (w.setRow g cs).heap[b]? = w.heap[b]? := by
  unfold World.setRow
  simp only [Array.getElem?_modify]
  rw [if_neg (Ne.symm hb)]
theorem setRow_size (w : World) (g : Nat) (cs : Array Value) : (w.setRow g cs).heap.size = w.heap.size := by
  unfold World.setRow
  simp
theorem hrep_set {h : Heap} (hh : HRep w h) {b : Nat} {x0 x : Blk} (hb : h b = some x0) {c0 c : Array Value} {t : TypeId} (hw : w.heap[b]? = some (.cells c0 t (0, 0))) (hl : x.cells.length + x.spare = c.size)
    (hc : ∀ (i : Nat) (v : AV), x.cells[i]? = some v → ∃ cv, c[i]? = some cv ∧ cv.oneCell' = true ∧ Rep w h.dom v cv) :
    HRep (w.setRow b c) (upd h b x) ∧ Fr w h (w.setRow b c) (upd h b x) := by
  have hf : Fr w h (w.setRow b c) (upd h b x) := by
    refine ⟨by rw [setRow_size]; exact Nat.le_refl _, fun b' hb' e => ?_, rfl, rfl, rfl⟩
    have hne : b' ≠ b := by rintro rfl; rw [hb] at e; cases e
    exact ⟨by simp [upd, hne, e], setRow_other w b c hne⟩
  refine ⟨fun b' y hy => ?_, hf⟩
  unfold upd at hy
  split at hy
  · rename_i e
    cases hy
    subst e
    refine ⟨c, t, setRow_heap w _ c0 c t _ hw, hl, fun i v hv => ?_⟩
    obtain ⟨cv, h1, h2, h3⟩ := hc i v hv
    exact ⟨cv, h1, h2, h3.keep hf.keeps⟩
  · rename_i e
    obtain ⟨c', t', h1, h2, h3⟩ := hh b' y hy
    refine ⟨c', t', by rw [setRow_other w b c e]; exact h1, h2, fun i v hv => ?_⟩
    obtain ⟨cv, h4, h5, h6⟩ := h3 i v hv
    exact ⟨cv, h4, h5, h6.keep hf.keeps⟩
/-- Owned blocks may be forgotten. -/
theorem hrep_less {h h' : Heap} (hh : HRep w h) (hle : ∀ b x, h' b = some x → h b = some x) : HRep w h' ∧ Fr w h w h' := by
  have hf : Fr w h w h' := by
    refine ⟨Nat.le_refl _, fun b _ e => ⟨?_, rfl⟩, rfl, rfl, rfl⟩
    cases e' : h' b with
    | none => rfl
    | some x => rw [hle b x e'] at e; cases e
  refine ⟨fun b x hx => ?_, hf⟩
  obtain ⟨c, t, h1, h2, h3⟩ := hh b x (hle b x hx)
  refine ⟨c, t, h1, h2, fun i v hv => ?_⟩
  obtain ⟨cv, h4, h5, h6⟩ := h3 i v hv
  exact ⟨cv, h4, h5, h6.keep hf.keeps⟩
theorem repl_get {O : Nat → Prop} {cells : List AV} {cs : List Value} (h : RepL w O cells cs) (h1 : ∀ v ∈ cs, v.oneCell' = true) (i : Nat) (v : AV) (hv : cells[i]? = some v) :
    ∃ cv, cs[i]? = some cv ∧ cv.oneCell' = true ∧ Rep w O v cv := by
  have hlt : i < cells.length := (List.getElem?_eq_some_iff.1 hv).1
  have hc : cs[i]? = some (cs[i]'(by have := h.1; omega)) := List.getElem?_eq_getElem _
  exact ⟨_, hc, h1 _ (List.getElem_mem _), h.2 i v _ hv hc⟩
/-- A value's cells, stored at an owned place. -/
theorem asto_sound {h h' : Heap} (hh : HRep w h) {n : Nat} {a v : AV} {t : TypeId} (ht : szOf P t = some n) {ca cv : Value} (hs : asto h n a (cellsOf v) = some h') (ha : Rep w h.dom a ca) (hv : Rep w h.dom v cv) :
    ∃ w', (Instr.storeAt t ca cv).run P w = .ok () w' ∧ HRep w' h' ∧ Fr w h w' h' := by
  unfold asto at hs
  split at hs
  · rename_i b o cs hcs
    split at hs
    · rename_i x hb
      split at hs
      · rename_i hle
        cases hs
        obtain ⟨c, ty, hw, hsz, hc⟩ := hh b x hb
        obtain ⟨hr, h1⟩ := cellsOf_rep hv hcs
        have hlen : cv.cells.toList.length = n := by rw [← hr.1]; exact hle.1
        have hst := run_storeCells_at P b o ty cv.cells.toList 0 c w hw (by omega) h1
        obtain ⟨k1, k2⟩ := hrep_set hh hb (x := ⟨splice x.cells o cs, x.spare⟩) (c := (c.toList.take (o + 0) ++ cv.cells.toList ++ c.toList.drop (o + 0 + cv.cells.toList.length)).toArray) hw
          (by simp only [splice_length (show o + cs.length ≤ x.cells.length by omega)]; simp at hlen ⊢; omega) (fun i v hv => by
            rw [splice_get (by omega)] at hv
            simp only [Nat.add_zero]
            split at hv
            · rename_i hi
              obtain ⟨cw, e1, e2, e3⟩ := repl_get hr h1 _ v hv
              refine ⟨cw, ?_, e2, e3⟩
              have : (List.take o c.toList ++ cv.cells.toList)[i]? = some cw := by
                rw [List.getElem?_append_right (by simp; omega)]
                simp only [List.length_take, Array.length_toList]
                rw [show min o c.size = o by omega]; exact e1
              have hlt : i < (List.take o c.toList ++ cv.cells.toList).length := (List.getElem?_eq_some_iff.1 this).1
              rw [List.getElem?_toArray, List.getElem?_append_left hlt]
              exact this
            · rename_i hi
              obtain ⟨cw, e1, e2, e3⟩ := hc i v hv
              refine ⟨cw, ?_, e2, e3⟩
              have hic : i < c.size := (Array.getElem?_eq_some_iff.1 e1).1
              rw [List.getElem?_toArray]
              by_cases hlt : i < o
              · rw [List.getElem?_append_left (by simp at hlen ⊢; omega), List.getElem?_append_left (by simp; omega), List.getElem?_take, if_pos hlt]
                simpa using e1
              · rw [List.getElem?_append_right (by simp at hlen ⊢; omega), List.getElem?_drop]
                simp only [List.length_append, List.length_take, Array.length_toList]
                have e2 : o + cv.cells.size + (i - (min o c.size + cv.cells.size)) = i := by simp at hlen; omega
                simp only [Array.getElem?_toList]
                rw [e2]
                exact e1)
        refine ⟨_, ?_, k1, k2⟩
        rw [rep_ptr ha]
        have hsize : ¬ cv.cells.size ≠ n := by simp at hlen; omega
        simp only [Instr.storeAt, Instr.sureAddr, Sem.run_bind, Sem.run_pure, Result.andThen_ok, storeVar, run_sz ht, Sem.run_ite]
        rw [if_neg hsize]
        simpa using hst
      · cases hs
    · cases hs
  · cases hs
theorem repl_map {O : Nat → Prop} {ρ : Env} {a : Act} {args : List Operand} (hx : ∀ x ∈ args, Rep w O (xv G ρ x) (a.eval x)) : RepL w O (args.map (xv G ρ)) (args.map a.eval) := by
  induction args with
  | nil => exact .nil
  | cons x r ih => exact .cons (hx x (by simp)) (ih fun y hy => hx y (by simp [hy]))
theorem RepL.append {O : Nat → Prop} {as bs : List AV} {vs us : List Value} (h : RepL w O as vs) (h' : RepL w O bs us) : RepL w O (as ++ bs) (vs ++ us) := by
  refine ⟨by simp [h.1, h'.1], fun i a v ha hv => ?_⟩
  by_cases hi : i < as.length
  · rw [List.getElem?_append_left hi] at ha
    rw [List.getElem?_append_left (by have := h.1; omega)] at hv
    exact h.2 i a v ha hv
  · rw [List.getElem?_append_right (by omega)] at ha
    rw [List.getElem?_append_right (by have := h.1; omega)] at hv
    exact h'.2 _ a v ha (by rw [h.1]; exact hv)
theorem run_app_room (t u ty e : TypeId) (i : TypeInfo) (ht : P.underlying t = some (.slice e)) (hu : (∃ e', P.underlying u = some (.slice e')) ∨ P.underlying u = some .string) (hi : P.info? e = some i)
    (base : Option Addr) (sLen sCap m : Nat) (x : Value) (news : List Value) (hlen : (Builtin.lenOf x).run P w = .ok m w) (hfc : (Builtin.firstCells i.size m x).run P w = .ok news.toArray w) (hroom : sLen + m ≤ sCap) {w' : World}
    (hst : ∀ a, base = some a → (storeCells (a.add (sLen * i.size)) news).run P w = .ok () w') (hno : base = none → w' = w) :
    (Builtin.append_ #[t, u] ty #[.slice base sLen sCap, x]).run P w = .ok (.slice base (sLen + m) sCap) w' := by
  cases base with
  | none =>
    rw [hno rfl]
    rcases hu with ⟨e', hu⟩ | hu <;>
      simp [Builtin.append_, run_underlying ht, run_underlying hu, sizeOf, typeInfo, hi, hlen, hroom, hfc]
  | some a =>
    have h := hst a rfl
    rcases hu with ⟨e', hu⟩ | hu <;>
      simp [Builtin.append_, run_underlying ht, run_underlying hu, sizeOf, typeInfo, hi, hlen, hroom, hfc, h]
theorem run_app_grow (t u ty e : TypeId) (i : TypeInfo) (z : Value) (ht : P.underlying t = some (.slice e)) (hu : (∃ e', P.underlying u = some (.slice e')) ∨ P.underlying u = some .string) (hi : P.info? e = some i) (hz : i.zero = some z)
    (base : Option Addr) (sLen sCap m : Nat) (x : Value) (olds news : List Value) (hlen : (Builtin.lenOf x).run P w = .ok m w)
    (hold : (Builtin.firstCells i.size sLen (.slice base sLen sCap)).run P w.drew = .ok olds.toArray w.drew)
    (hfc : (Builtin.firstCells i.size m x).run P w.drew = .ok news.toArray w.drew) (hg : sCap < sLen + m) (h63 : sLen + m ≤ 9223372036854775807) (hfit : (sLen + m) * i.bytes ≤ 140737488355328) :
    (Builtin.append_ #[t, u] ty #[.slice base sLen sCap, x]).run P w =
      .ok (.slice (some ⟨w.heap.size, 0, none⟩) (sLen + m) (grownCap w (sLen + m) sCap e))
        (w.drew.alloc (.cells (olds.toArray ++ news.toArray ++ Builtin.zeroCells z.cells (grownCap w (sLen + m) sCap e - (sLen + m))) e)) := by
  have hn : ¬ (sLen + m ≤ sCap) := by omega
  have h63' : ¬ (9223372036854775807 < ((sLen : Int) + (m : Int))) := by omega
  have h48 : Builtin.nextslicecap (sLen + m) sCap * i.bytes ≤ 281474976710656 := growslice_fits hg hfit
  have h48' : ¬ (281474976710656 < Builtin.nextslicecap (sLen + m) sCap * i.bytes) := by omega
  rcases hu with ⟨e', hu⟩ | hu
  · simp [Builtin.append_, run_underlying ht, run_underlying hu, sizeOf, typeInfo, zeroValue, hi, hz, hlen, hn, h63', h48', Question.forced, hfc, hold, newRow, grownCap]
    congr 2
    apply Array.ext'
    simp [List.append_assoc]
  · simp [Builtin.append_, run_underlying ht, run_underlying hu, sizeOf, typeInfo, zeroValue, hi, hz, hlen, hn, h63', h48', Question.forced, hfc, hold, newRow, grownCap]
    congr 2
    apply Array.ext'
    simp [List.append_assoc]
end
end Go.Ab
