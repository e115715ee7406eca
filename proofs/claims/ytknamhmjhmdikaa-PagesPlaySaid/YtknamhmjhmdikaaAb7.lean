/- A frame for walks over what values stand for, part Ab7. -/
import Derived.Test.YtknamhmjhmdikaaAb6
namespace Go.Ab
section
variable {P : Program} {G : Glo} {w : World}
theorem own_lt {h : Heap} {b : Nat} {y : Blk} (hb : CRep w h b y ∨ ORep w b y) : b < w.heap.size := by
  rcases hb with ⟨c, t, h1, _⟩ | ⟨o, _, _, h1⟩
  · exact (Array.getElem?_eq_some_iff.1 h1).1
  · exact (Array.getElem?_eq_some_iff.1 h1).1
theorem own_keep {h h1 : Heap} {w1 : World} {b : Nat} {y : Blk} (hb : CRep w h b y ∨ ORep w b y) (he : w1.heap[b]? = w.heap[b]?) (hk : Keeps w h.dom w1 h1.dom) : CRep w1 h1 b y ∨ ORep w1 b y := by
  rcases hb with ⟨c, t, e1, e2, e3⟩ | ⟨o, e1, e2, e3⟩
  · refine .inl ⟨c, t, he.trans e1, e2, fun i v hv => ?_⟩
    obtain ⟨cv, e4, e5, e6⟩ := e3 i v hv
    exact ⟨cv, e4, e5, e6.keep hk⟩
  · exact .inr ⟨o, e1, e2, he.trans e3⟩
theorem isC_push {w1 : World} {o : Obj} (hw : w1.heap = w.heap.push o) (b : Nat) (hb : isC w b) : isC w1 b := by
  obtain ⟨c, t, f, e⟩ := hb
  have hlt := (Array.getElem?_eq_some_iff.1 e).1
  exact ⟨c, t, f, by rw [hw, Array.getElem?_push_lt hlt, ← Array.getElem?_eq_getElem hlt]; exact e⟩
/-- Any new object. -/
theorem hrep_new_obj {h : Heap} (hh : HRep w h) {w1 : World} {o : Obj} (hw : w1.heap = w.heap.push o) (hsm : w1.os = w.os ∧ w1.tape = w.tape ∧ w1.output = w.output) {x : Blk}
    (hx : ∀ _ : Keeps w h.dom w1 (upd h w.heap.size x).dom, CRep w1 (upd h w.heap.size x) w.heap.size x ∨ ORep w1 w.heap.size x) :
    h w.heap.size = none ∧ HRep w1 (upd h w.heap.size x) ∧ Fr w h w1 (upd h w.heap.size x) := by
  have hn : h w.heap.size = none := by
    cases e : h w.heap.size with
    | none => rfl
    | some y => exact absurd (own_lt (hh _ y e)) (Nat.lt_irrefl _)
  have hf : Fr w h w1 (upd h w.heap.size x) := by
    refine ⟨by rw [hw]; simp, fun b hb e => ⟨?_, ?_⟩, isC_push hw, hsm.1, hsm.2.1, hsm.2.2⟩
    · have : b ≠ w.heap.size := by omega
      simp [upd, this, e]
    · rw [hw, Array.getElem?_push_lt hb, Array.getElem?_eq_getElem hb]
  refine ⟨hn, fun b y hy => ?_, hf⟩
  unfold upd at hy
  split at hy
  · rename_i e
    cases hy
    subst e
    exact hx hf.keeps
  · have hb := own_lt (hh b y hy)
    exact own_keep (hh b y hy) (by rw [hw, Array.getElem?_push_lt hb, ← Array.getElem?_eq_getElem hb]) hf.keeps
theorem hrep_alloc {h : Heap} (hh : HRep w h) {w1 : World} {c : Array Value} {t : TypeId} (hw : w1.heap = w.heap.push (.cells c t (0, 0))) (hsm : w1.os = w.os ∧ w1.tape = w.tape ∧ w1.output = w.output) {x : Blk} (hl : x.cells.length + x.spare = c.size)
    (hc : ∀ (i : Nat) (v : AV), x.cells[i]? = some v → ∃ cv, c[i]? = some cv ∧ cv.oneCell' = true ∧ Rep w h.dom v cv) :
    h w.heap.size = none ∧ HRep w1 (upd h w.heap.size x) ∧ Fr w h w1 (upd h w.heap.size x) := by
  refine hrep_new_obj hh hw hsm fun hk => .inl ⟨c, t, by rw [hw]; simp, hl, fun i v hv => ?_⟩
  obtain ⟨cv, h1, h2, h3⟩ := hc i v hv
  exact ⟨cv, h1, h2, h3.keep hk⟩
theorem setRow_other (w : World) (g : Nat) (cs : Array Value) {b : Nat} (hb : b ≠ g) : (w.setRow g cs).heap[b]? = w.heap[b]? := by
  unfold World.setRow
  simp only [Array.getElem?_modify]
  rw [if_neg (Ne.symm hb)]
theorem setRow_size (w : World) (g : Nat) (cs : Array Value) : (w.setRow g cs).heap.size = w.heap.size := by
  unfold World.setRow
  simp
theorem hrep_set {h : Heap} (hh : HRep w h) {b : Nat} {x0 x : Blk} (hb : h b = some x0) {c0 c : Array Value} {t : TypeId} (hw : w.heap[b]? = some (.cells c0 t (0, 0))) (hl : x.cells.length + x.spare = c.size)
    (hc : ∀ (i : Nat) (v : AV), x.cells[i]? = some v → ∃ cv, c[i]? = some cv ∧ cv.oneCell' = true ∧ Rep w h.dom v cv) :
    HRep (w.setRow b c) (upd h b x) ∧ Fr w h (w.setRow b c) (upd h b x) := by
  have hck : ∀ b', isC w b' → isC (w.setRow b c) b' := by
    intro b' hk
    by_cases e : b' = b
    · subst e; exact ⟨c, t, (0, 0), setRow_heap w _ c0 c t _ hw⟩
    · obtain ⟨c', t', f, e'⟩ := hk
      exact ⟨c', t', f, (setRow_other w b c e).trans e'⟩
  have hf : Fr w h (w.setRow b c) (upd h b x) := by
    refine ⟨by rw [setRow_size]; exact Nat.le_refl _, fun b' hb' e => ?_, hck, rfl, rfl, rfl⟩
    have hne : b' ≠ b := by rintro rfl; rw [hb] at e; cases e
    exact ⟨by simp [upd, hne, e], setRow_other w b c hne⟩
  refine ⟨fun b' y hy => ?_, hf⟩
  unfold upd at hy
  split at hy
  · rename_i e
    cases hy
    subst e
    refine .inl ⟨c, t, setRow_heap w _ c0 c t _ hw, hl, fun i v hv => ?_⟩
    obtain ⟨cv, h1, h2, h3⟩ := hc i v hv
    exact ⟨cv, h1, h2, h3.keep hf.keeps⟩
  · rename_i e
    exact own_keep (hh b' y hy) (setRow_other w b c e) hf.keeps
/-- An object that is no cells, turned. -/
theorem hrep_put {h : Heap} (hh : HRep w h) {b : Nat} {o o' : Obj} (hb : h b = some ⟨[.raw o], 0⟩) (ho : o'.isCells = false) :
    HRep (w.putObj b o') (upd h b ⟨[.raw o'], 0⟩) ∧ Fr w h (w.putObj b o') (upd h b ⟨[.raw o'], 0⟩) := by
  obtain ⟨hw, hc⟩ := hh.obj hb
  have hlt := (Array.getElem?_eq_some_iff.1 hw).1
  have hck : ∀ b', isC w b' → isC (w.putObj b o') b' := by
    intro b' hk
    by_cases e : b' = b
    · subst e; rw [isC_not hk hw] at hc; cases hc
    · obtain ⟨c', t', f, e'⟩ := hk
      exact ⟨c', t', f, (World.putObj_heap_other e).trans e'⟩
  have hf : Fr w h (w.putObj b o') (upd h b ⟨[.raw o'], 0⟩) := by
    refine ⟨by simp [World.putObj], fun b' hb' e => ?_, hck, rfl, rfl, rfl⟩
    have hne : b' ≠ b := by rintro rfl; rw [hb] at e; cases e
    exact ⟨by simp [upd, hne, e], World.putObj_heap_other hne⟩
  refine ⟨fun b' y hy => ?_, hf⟩
  unfold upd at hy
  split at hy
  · rename_i e
    cases hy
    subst e
    exact .inr ⟨o', rfl, ho, World.putObj_heap_same hlt⟩
  · rename_i e
    exact own_keep (hh b' y hy) (World.putObj_heap_other e) hf.keeps
theorem mup_sound {h : Heap} (hh : HRep w h) {t : TypeId} {k : IntKind} {e : TypeId} (ht : mapOf P t = some (k, e)) {x i v : AV} {cx ci cv : Value} (hx : Rep w h.dom x cx) (hi : Rep w h.dom i ci) (hv : Rep w h.dom v cv)
    {Q : AV → Heap → Prop} (hs : mupQ k x i v h Q) : ∃ w' h', (Instr.mapUpdate t cx ci cv).run P w = .ok () w' ∧ Q (.tup []) h' ∧ HRep w' h' ∧ Fr w h w' h' := by
  unfold mupQ at hs
  split at hs
  · rename_i b k' n c h1
    split at hs
    · rename_i es tm hb
      have hb := mapK_eq hb
      have hc : cv = c := by
        unfold valM at h1
        split at h1 <;> cases h1
        · exact rep_int hv
        · exact rep_bool hv
        · exact rep_str hv
        · exact rep_mpp hv
      rw [rep_mpp hx, rep_int hi, hc]
      split at hs
      · rename_i j val hf
        have hp := hrep_put hh hb (o' := .map (es.modify j fun e => { e with key := .int k' n, val := c }) tm) rfl
        exact ⟨_, _, run_mup ht (hh.obj hb).1 hf c, hs, hp.1, hp.2⟩
      · rename_i hf
        have hp := hrep_put hh hb (o' := .map (es.push { key := .int k' n, val := c, born := tm }) (tm + 1)) rfl
        exact ⟨_, _, run_mup ht (hh.obj hb).1 hf c, hs, hp.1, hp.2⟩
      · exact hs.elim
    · exact hs.elim
  · exact hs.elim
theorem dlt_sound {h : Heap} (hh : HRep w h) {t ty : TypeId} {k : IntKind} {e : TypeId} (ht : mapOf P t = some (k, e)) (ts : List TypeId) {x i : AV} {cx ci : Value} (hx : Rep w h.dom x cx) (hi : Rep w h.dom i ci)
    {Q : AV → Heap → Prop} (hs : dltQ k x i h Q) : ∃ w' h', (Builtin.delete_ (t :: ts).toArray ty #[cx, ci]).run P w = .ok (.tuple #[]) w' ∧ Q (.tup []) h' ∧ HRep w' h' ∧ Fr w h w' h' := by
  unfold dltQ at hs
  split at hs
  · rename_i k' n
    rw [rep_mpp hx, rep_int hi]
    exact ⟨_, _, run_dlt0 ht _ _ ts, hs, hh, Fr.refl _ _⟩
  · rename_i b k' n
    rw [rep_mpp hx, rep_int hi]
    split at hs
    · rename_i es tm hb
      have hb := mapK_eq hb
      split at hs
      · rename_i j val hf
        have hp := hrep_put hh hb (o' := .map (es.eraseIdxIfInBounds j) tm) rfl
        exact ⟨_, _, run_dlt ht (hh.obj hb).1 hf ts, hs, hp.1, hp.2⟩
      · rename_i hf
        have hp := hrep_put hh hb (o' := .map es tm) rfl
        exact ⟨_, _, run_dlt ht (hh.obj hb).1 hf ts, hs, hp.1, hp.2⟩
      · exact hs.elim
    · exact hs.elim
  · exact hs.elim
/-- Owned blocks may be forgotten. -/
theorem hrep_less {h h' : Heap} (hh : HRep w h) (hle : ∀ b x, h' b = some x → h b = some x) : HRep w h' ∧ Fr w h w h' := by
  have hf : Fr w h w h' := by
    refine ⟨Nat.le_refl _, fun b _ e => ⟨?_, rfl⟩, fun _ h => h, rfl, rfl, rfl⟩
    cases e' : h' b with
    | none => rfl
    | some x => rw [hle b x e'] at e; cases e
  exact ⟨fun b x hx => own_keep (hh b x (hle b x hx)) rfl hf.keeps, hf⟩
theorem repl_get {O : Nat → Prop} {cells : List AV} {cs : List Value} (h : RepL w O cells cs) (h1 : ∀ v ∈ cs, v.oneCell' = true) (i : Nat) (v : AV) (hv : cells[i]? = some v) :
    ∃ cv, cs[i]? = some cv ∧ cv.oneCell' = true ∧ Rep w O v cv := by
  have hlt : i < cells.length := (List.getElem?_eq_some_iff.1 hv).1
  have hc : cs[i]? = some (cs[i]'(by have := h.1; omega)) := List.getElem?_eq_getElem _
  exact ⟨_, hc, h1 _ (List.getElem_mem _), h.2 i v _ hv hc⟩
/-- A value's cells, stored at an owned place. -/
theorem asto_sound {h h' : Heap} (hh : HRep w h) {n : Nat} {a v : AV} {t : TypeId} (ht : szOf P t = some n) {ca cv : Value} (hs : asto h n a (cellsOf v) = some h') (ha : Rep w h.dom a ca) (hv : Rep w h.dom v cv) :
    ∃ w', (Instr.storeAt t ca cv).run P w = .ok () w' ∧ HRep w' h' ∧ Fr w h w' h' := by
  unfold asto at hs
  split at hs
  · rename_i b o cs hcs
    split at hs
    · rename_i x hb
      split at hs
      · rename_i hle
        cases hs
        obtain ⟨c, ty, hw, hsz, hc⟩ := hh.cells hb (rep_ptrC ha)
        obtain ⟨hr, h1⟩ := cellsOf_rep hv hcs
        have hlen : cv.cells.toList.length = n := by rw [← hr.1]; exact hle.1
        have hst := run_storeCells_at P b o ty cv.cells.toList 0 c w hw (by omega) h1
        obtain ⟨k1, k2⟩ := hrep_set hh hb (x := ⟨splice x.cells o cs, x.spare⟩) (c := (c.toList.take (o + 0) ++ cv.cells.toList ++ c.toList.drop (o + 0 + cv.cells.toList.length)).toArray) hw
          (by simp only [splice_length (show o + cs.length ≤ x.cells.length by omega)]; simp at hlen ⊢; omega) (fun i v hv => by
            rw [splice_get (by omega)] at hv
            simp only [Nat.add_zero]
            split at hv
            · rename_i hi
              obtain ⟨cw, e1, e2, e3⟩ := repl_get hr h1 _ v hv
              refine ⟨cw, ?_, e2, e3⟩
              have : (List.take o c.toList ++ cv.cells.toList)[i]? = some cw := by
                rw [List.getElem?_append_right (by simp; omega)]
                simp only [List.length_take, Array.length_toList]
                rw [show min o c.size = o by omega]; exact e1
              have hlt : i < (List.take o c.toList ++ cv.cells.toList).length := (List.getElem?_eq_some_iff.1 this).1
              rw [List.getElem?_toArray, List.getElem?_append_left hlt]
              exact this
            · rename_i hi
              obtain ⟨cw, e1, e2, e3⟩ := hc i v hv
              refine ⟨cw, ?_, e2, e3⟩
              have hic : i < c.size := (Array.getElem?_eq_some_iff.1 e1).1
              rw [List.getElem?_toArray]
              by_cases hlt : i < o
              · rw [List.getElem?_append_left (by simp at hlen ⊢; omega), List.getElem?_append_left (by simp; omega), List.getElem?_take, if_pos hlt]
                simpa using e1
              · rw [List.getElem?_append_right (by simp at hlen ⊢; omega), List.getElem?_drop]
                simp only [List.length_append, List.length_take, Array.length_toList]
                have e2 : o + cv.cells.size + (i - (min o c.size + cv.cells.size)) = i := by simp at hlen; omega
                simp only [Array.getElem?_toList]
                rw [e2]
                exact e1)
        refine ⟨_, ?_, k1, k2⟩
        rw [rep_ptr ha]
        have hsize : ¬ cv.cells.size ≠ n := by simp at hlen; omega
        simp only [Instr.storeAt, Instr.sureAddr, Sem.run_bind, Sem.run_pure, Result.andThen_ok, storeVar, run_sz ht, Sem.run_ite]
        rw [if_neg hsize]
        simpa using hst
      · cases hs
    · cases hs
  · cases hs
theorem mkCells_eq (z : List AV) (n : Nat) : mkCells z n = (List.replicate n z).flatten := by
  match z with
  | [] => rfl
  | [v] =>
    show List.replicate n v = _
    induction n with
    | zero => rfl
    | succ n ih => rw [List.replicate_succ, List.replicate_succ, List.flatten_cons, ih]; rfl
  | _ :: _ :: _ => rfl
theorem mkCells_get {z : List AV} {n i : Nat} (hi : i < n * z.length) : (mkCells z n)[i]? = z[i % z.length]? := by
  rw [mkCells_eq]
  induction n generalizing i with
  | zero => omega
  | succ n ih =>
    rw [List.replicate_succ, List.flatten_cons]
    by_cases h : i < z.length
    · rw [List.getElem?_append_left h, Nat.mod_eq_of_lt h]
    · rw [List.getElem?_append_right (by omega), ih (by rw [Nat.succ_mul] at hi; omega), ← Nat.mod_eq_sub_mod (by omega)]
theorem mkCells_length (z : List AV) (n : Nat) : (mkCells z n).length = n * z.length := by
  rw [mkCells_eq, List.length_flatten]
  simp
/-- The first ones of what is copied: their cells, loaded. -/
theorem addedBy_first {h : Heap} (hh : HRep w h) {sz m : Nat} {y : AV} {cs : List AV} (hy : addedBy h sz y = some (m, cs)) {c : Value} (hr : Rep w h.dom y c) {k : Nat} (hk : k ≤ m) :
    cs.length = m * sz ∧ (Builtin.lenOf c).run P w = .ok m w ∧ ∃ news : List Value, RepL w h.dom (cs.take (k * sz)) news ∧ (∀ v ∈ news, v.oneCell' = true) ∧ (Builtin.firstCells sz k c).run P w = .ok news.toArray w := by
  have hks : k * sz ≤ m * sz := Nat.mul_le_mul_right _ hk
  unfold addedBy at hy
  split at hy
  · cases hy
    obtain rfl : k = 0 := by omega
    rw [rep_nils hr]
    exact ⟨by simp, by simp [Builtin.lenOf], [], by simpa using RepL.nil, by simp, by simp [Builtin.firstCells]⟩
  · rename_i cells n
    split at hy
    · rename_i hl
      cases hy
      obtain ⟨p, cap, hc, _, hp⟩ := rep_ro hr
      rw [hc]
      refine ⟨hl, by simp [Builtin.lenOf], ?_⟩
      rcases hp with ⟨rfl, rfl⟩ | ⟨b, o, f, rfl, hb, hO, h1, h2⟩
      · obtain rfl : k = 0 := by omega
        refine ⟨[], by simpa using RepL.nil, by simp, ?_⟩
        cases p with
        | none => simp [Builtin.firstCells]
        | some p => simp [Builtin.firstCells, loadCells, loadCellsFrom]
      · have hat : At w h.dom b o cs := fun i v hv => ⟨f i, (h1 i v hv).1, (h1 i v hv).2, h2 i v hv⟩
        obtain ⟨news, e1, e2, e3, e4⟩ := (hat.take (k * sz)).list
        refine ⟨news, e4, e3, ?_⟩
        exact run_firstCells_some w sz k _ _ _ news (by rw [e1, List.length_take]; omega) fun j v hv => by
          rw [Addr.add_lit]
          exact e2 j v hv
    · cases hy
  · rename_i b o n cap
    split at hy
    · rename_i x hb
      split at hy
      · rename_i hle
        cases hy
        obtain ⟨p, hc, hlc, hp⟩ := rep_sl hr
        have hcl : ((x.cells.drop o).take (m * sz)).length = m * sz := by simp; omega
        rw [hc]
        refine ⟨hcl, by simp [Builtin.lenOf], ?_⟩
        have hat : At w h.dom b (0 + o) (((x.cells.drop o).take (m * sz)).take (k * sz)) := by
          by_cases h0 : m = 0 ∧ cap = 0
          · rw [h0.1, Nat.zero_mul, List.take_zero, List.take_nil]; intro i v hv; cases hv
          · exact (((hh.at hb (rep_slC hr h0)).drop o).take _).take _
        obtain ⟨news, e1, e2, e3, e4⟩ := hat.list
        have hnl : news.length = k * sz := by rw [e1, List.length_take, hcl]; omega
        refine ⟨news, e4, e3, ?_⟩
        rcases hp with ⟨rfl, rfl⟩ | rfl
        · obtain rfl : k = 0 := by omega
          have : news = [] := List.eq_nil_of_length_eq_zero (by rw [hnl]; simp)
          subst this
          simp [Builtin.firstCells, loadCells, loadCellsFrom]
        · exact run_firstCells_some w sz k _ _ _ news hnl fun j v hv => by
            rw [Addr.add_lit]
            have := e2 j v hv
            rw [Nat.zero_add] at this
            exact this
      · cases hy
    · cases hy
  · rename_i s
    split at hy
    · rename_i h1
      cases hy
      subst h1
      rw [rep_str hr]
      have hdl : s.data.toList.length = s.size := by simp
      refine ⟨by simp, by simp [Builtin.lenOf], (s.data.toList.take k).map fun c => .int .u8 c.toNat, ⟨by simp, fun i a v ha hv => ?_⟩, fun v hv => (by obtain ⟨c, _, rfl⟩ := List.mem_map.1 hv; rfl), ?_⟩
      · rw [Nat.mul_one, ← List.map_take] at ha
        simp only [List.getElem?_map, Option.map_eq_some_iff] at ha hv
        obtain ⟨c, h1, rfl⟩ := ha
        obtain ⟨d, h2, rfl⟩ := hv
        rw [h1] at h2
        cases h2
        exact .int _ _
      · simp only [Builtin.firstCells, Sem.run_pure]
        congr 1
        apply Array.ext'
        rw [ByteArray.data_extract]
        simp
    · cases hy
  · cases hy
theorem cpy_sound {h : Heap} (hh : HRep w h) {e : TypeId} {t u ty : TypeId} (ht : P.underlying t = some (.slice e)) {sz : Nat} (hsz : szOf P e = some sz)
    {x y : AV} {cx cy : Value} (hrx : Rep w h.dom x cx) (hry : Rep w h.dom y cy)
    {m : Nat} {cs : List AV} (hy : addedBy h sz y = some (m, cs)) {Q : AV → Heap → Prop} (hs : cpyQ sz m cs x h Q) :
    ∃ c w' av h', (Builtin.copy_ #[t, u] ty #[cx, cy]).run P w = .ok c w' ∧ Q av h' ∧ HRep w' h' ∧ Rep w' h'.dom av c ∧ Fr w h w' h' := by
  unfold cpyQ at hs
  cases x <;> simp only at hs
  case nils =>
    obtain ⟨_, hl, news, _, _, hf⟩ := addedBy_first (P := P) hh hy hry (Nat.zero_le m)
    rw [rep_nils hrx]
    refine ⟨.int .i64 0, w, _, h, ?_, hs, hh, .int _ _, Fr.refl _ _⟩
    simp only [Builtin.copy_, Sem.run_bind, Result.andThen_ok, run_underlying ht, hl, run_sz hsz, List.getElem?_toArray, List.getElem?_cons_zero, List.getElem?_cons_succ]
    simp [hf, goInt]
  case sl b o n cap =>
    split at hs
    · exact hs.elim
    · rename_i k hb
      obtain ⟨hle, hq⟩ := hs
      obtain ⟨hcl, hl, news, hr, h1, hf⟩ := addedBy_first (P := P) hh hy hry (Nat.min_le_left m n)
      obtain ⟨p, hc, hlc, hp⟩ := rep_sl hrx
      subst hc
      by_cases hz0 : n = 0 ∧ cap = 0
      · obtain ⟨rfl, rfl⟩ := hz0
        have hnil : news = [] := List.eq_nil_of_length_eq_zero (by rw [← hr.1]; simp)
        subst hnil
        have he : upd h b ⟨splice k.cells o (cs.take (min m 0 * sz)), k.spare⟩ = h := by
          funext d
          simp only [upd]
          split
          · rename_i e; rw [e, hb, Nat.min_zero, Nat.zero_mul, List.take_zero]; simp [splice]
          · rfl
        rw [he] at hq
        refine ⟨.int .i64 ((min m 0 : Nat) : Int), w, _, h, ?_, hq, hh, .int _ _, Fr.refl _ _⟩
        simp only [Builtin.copy_, Sem.run_bind, Result.andThen_ok, run_underlying ht, hl, run_sz hsz, List.getElem?_toArray, List.getElem?_cons_zero, List.getElem?_cons_succ]
        rw [show Nat.min m 0 = min m 0 from rfl, hf]
        simp [storeCells, goInt]
      obtain ⟨c, ty', hw, hsize, hcc⟩ := hh.cells hb (rep_slC hrx hz0)
      have hms : min m n * sz ≤ m * sz := Nat.mul_le_mul_right _ (Nat.min_le_left _ _)
      have hns : min m n * sz ≤ n * sz := Nat.mul_le_mul_right _ (Nat.min_le_right _ _)
      have hnl : news.length = min m n * sz := by rw [← hr.1, List.length_take]; omega
      have hst := run_storeCells_at P b o ty' news 0 c w hw (by omega) h1
      simp only [Nat.add_zero] at hst
      have htl : (cs.take (min m n * sz)).length = news.length := hr.1
      obtain ⟨k1, k2⟩ := hrep_set hh hb (x := ⟨splice k.cells o (cs.take (min m n * sz)), k.spare⟩) (c := (c.toList.take o ++ news ++ c.toList.drop (o + news.length)).toArray) hw
        (by simp only [splice_length (show o + (cs.take (min m n * sz)).length ≤ k.cells.length by omega), List.length_append, List.size_toArray, List.length_take, List.length_drop, Array.length_toList]; omega) (fun i v hv => by
          rw [splice_get (by omega)] at hv
          rw [List.getElem?_toArray]
          split at hv
          · rename_i hi
            obtain ⟨cw, e1, e2, e3⟩ := repl_get hr h1 _ v hv
            have hlt := (List.getElem?_eq_some_iff.1 e1).1
            refine ⟨cw, ?_, e2, e3⟩
            rw [List.getElem?_append_left (by simp; omega), List.getElem?_append_right (by simp; omega)]
            simp only [List.length_take, Array.length_toList]
            rw [show min o c.size = o by omega]; exact e1
          · rename_i hi
            obtain ⟨cw, e1, e2, e3⟩ := hcc i v hv
            refine ⟨cw, ?_, e2, e3⟩
            have hic : i < c.size := (Array.getElem?_eq_some_iff.1 e1).1
            by_cases hlt : i < o
            · rw [List.getElem?_append_left (by simp; omega), List.getElem?_append_left (by simp; omega), List.getElem?_take, if_pos hlt]
              simpa using e1
            · rw [List.getElem?_append_right (by simp; omega), List.getElem?_drop]
              simp only [List.length_append, List.length_take, Array.length_toList]
              rw [show o + news.length + (i - (min o c.size + news.length)) = i by omega]
              simpa using e1)
      refine ⟨.int .i64 ((min m n : Nat) : Int), _, _, _, ?_, hq, k1, .int _ _, k2⟩
      simp only [Builtin.copy_, Sem.run_bind, Result.andThen_ok, run_underlying ht, hl, run_sz hsz, List.getElem?_toArray, List.getElem?_cons_zero, List.getElem?_cons_succ]
      rw [show Nat.min m n = min m n from rfl, hf]
      rcases hp with ⟨rfl, rfl⟩ | rfl
      · have hnil : news = [] := List.eq_nil_of_length_eq_zero (by rw [hnl]; simp)
        subst hnil
        simp only [List.append_nil, List.length_nil, Nat.add_zero, List.take_append_drop, Array.toArray_toList]
        rw [setRow_self w b c ty' (0, 0) hw]
        simp [storeCells, goInt]
      · simp [hst, goInt]
theorem mks_sound {h : Heap} (hh : HRep w h) {e t : TypeId} (ht : P.underlying t = some (.slice e)) {i : TypeInfo} (hi : P.info? e = some i) {z : List AV} (hz : zeroOf P e = some z)
    (hzl : z.length = i.size) (h0 : 0 < i.size) {x y : AV} {cx cy : Value} (hrx : Rep w h.dom x cx) (hry : Rep w h.dom y cy) {Q : AV → Heap → Prop} (hs : mksQ i.bytes z x y h Q) :
    ∃ c w' av h', (Instr.makeSlice t cx cy).run P w = .ok c w' ∧ Q av h' ∧ HRep w' h' ∧ Rep w' h'.dom av c ∧ Fr w h w' h' := by
  unfold mksQ at hs
  split at hs
  · rename_i k l k' c
    obtain ⟨hl0, hlc, hb, h63, hq⟩ := hs
    rw [rep_int hrx, rep_int hry]
    obtain ⟨L, rfl⟩ : ∃ L : Nat, l = L := ⟨l.toNat, by omega⟩
    obtain ⟨C, rfl⟩ : ∃ C : Nat, c = C := ⟨c.toNat, by omega⟩
    obtain ⟨zv, hzero, hzr⟩ := zero_rep (w := w) (O := h.dom) hz
    obtain ⟨zc, hzc, hzs, ho, hr⟩ := rep_agg hzr
    cases hzc
    have hsz : szOf P e = some i.size := by simp [szOf, hi]
    have hzn : zv.cells.size = i.size := by omega
    have wl : IntKind.i64.wrap (L : Int) = L := by rw [IntKind.wrap_i64]; omega
    have wc : IntKind.i64.wrap (C : Int) = C := by rw [IntKind.wrap_i64]; omega
    have hb' : (i.bytes : Int) * C = ((C * i.bytes : Nat) : Int) := by rw [Int.mul_comm]; simp
    have hbn : C * i.bytes ≤ 140737488355328 := by
      have : ((C * i.bytes : Nat) : Int) ≤ 140737488355328 := by simpa using hb
      omega
    have n1 : ¬ ((C : Int) < 0) := by omega
    have n2 : ¬ ((i.bytes : Int) * C > 281474976710656) := by rw [hb']; omega
    have n3 : ¬ ((L : Int) < 0) := by omega
    have n4 : ¬ ((L : Int) > C) := by omega
    have n5 : ¬ (C * i.bytes > roomBytes) := by simp [roomBytes]; omega
    have hLC : L ≤ C := by omega
    have hLCs : L * i.size ≤ C * i.size := Nat.mul_le_mul_right _ hLC
    have hal := hrep_alloc hh (w1 := w.alloc (.cells ((Array.range (C * i.size)).map (zv.cells[· % zv.cells.size]!)) e)) (x := ⟨mkCells z L, (C - L) * z.length⟩) rfl ⟨rfl, rfl, rfl⟩
      (by simp only [mkCells_length, hzl, Array.size_map, Array.size_range]; rw [← Nat.add_mul, Nat.add_sub_cancel' hLC]) (fun j v hv => by
        have hj : j < L * z.length := by
          have := (List.getElem?_eq_some_iff.1 hv).1
          rwa [mkCells_length] at this
        have hj' : j < L * i.size := by rw [hzl] at hj; exact hj
        rw [mkCells_get hj] at hv
        have hlt : j % zv.cells.size < zv.cells.size := Nat.mod_lt _ (by omega)
        rw [hzl, ← hzn] at hv
        refine ⟨zv.cells[j % zv.cells.size]!, ?_, ?_, ?_⟩
        · simp only [Array.getElem?_map]
          rw [Array.getElem?_range, if_pos (by omega)]
          rfl
        · rw [getElem!_pos zv.cells _ hlt]; exact ho _ _ (Array.getElem?_eq_getElem hlt)
        · rw [getElem!_pos zv.cells _ hlt]; exact hr _ _ _ hv (Array.getElem?_eq_getElem hlt))
    have hq' := hq w.heap.size hal.1
    simp only [Int.toNat_natCast] at hq'
    rw [show ((C : Int) - (L : Int)).toNat = C - L by omega] at hq'
    refine ⟨.slice (some ⟨w.heap.size, 0, none⟩) L C, _, _, _, ?_, hq', hal.2.1, .sl _ _ _ _ hLC ⟨_, _, _, World.alloc_heap_new w _⟩, hal.2.2⟩
    have fin : ∀ zc : Array Value, (Array.range (C * i.size)).map (zc[· % zc.size]!) = (Array.range (C * i.size)).map (zv.cells[· % zv.cells.size]!) →
        (do let a ← newRow e ((Array.range (C * i.size)).map (zc[· % zc.size]!)); pure (.slice (some a) (L : Int).toNat (C : Int).toNat) : Sem Value).run P w = .ok (.slice (some ⟨w.heap.size, 0, none⟩) L C) (w.alloc (.cells ((Array.range (C * i.size)).map (zv.cells[· % zv.cells.size]!)) e)) := by
      intro zc hzc
      rw [hzc]
      simp [newRow]
    by_cases e0 : C * i.size = 0
    · have := fin #[] (by rw [e0]; simp)
      simp only [Instr.makeSlice, Sem.run_bind, run_underlying ht, Result.andThen_ok, asInt, asIntOf, Sem.run_pure, run_typeInfo w hi, wl, wc, Sem.run_ite]
      rw [if_neg (by simp; omega)]
      simp only [askRoom, Int.toNat_natCast, if_neg n5, Sem.run_pure, Result.andThen_ok, run_sz hsz, if_pos e0]
      simpa using this
    · have := fin zv.cells rfl
      simp only [Instr.makeSlice, Sem.run_bind, run_underlying ht, Result.andThen_ok, asInt, asIntOf, Sem.run_pure, run_typeInfo w hi, wl, wc, Sem.run_ite]
      rw [if_neg (by simp; omega)]
      simp only [askRoom, Int.toNat_natCast, if_neg n5, Sem.run_pure, Result.andThen_ok, run_sz hsz, if_neg e0, hzero]
      simpa using this
  · exact hs.elim
theorem repl_map {O : Nat → Prop} {ρ : Env} {a : Act} {args : List Operand} (hx : ∀ x ∈ args, Rep w O (xv G ρ x) (a.eval x)) : RepL w O (args.map (xv G ρ)) (args.map a.eval) := by
  induction args with
  | nil => exact .nil
  | cons x r ih => exact .cons (hx x (by simp)) (ih fun y hy => hx y (by simp [hy]))
theorem RepL.append {O : Nat → Prop} {as bs : List AV} {vs us : List Value} (h : RepL w O as vs) (h' : RepL w O bs us) : RepL w O (as ++ bs) (vs ++ us) := by
  refine ⟨by simp [h.1, h'.1], fun i a v ha hv => ?_⟩
  by_cases hi : i < as.length
  · rw [List.getElem?_append_left hi] at ha
    rw [List.getElem?_append_left (by have := h.1; omega)] at hv
    exact h.2 i a v ha hv
  · rw [List.getElem?_append_right (by omega)] at ha
    rw [List.getElem?_append_right (by have := h.1; omega)] at hv
    exact h'.2 _ a v ha (by rw [h.1]; exact hv)
theorem run_app_room (t u ty e : TypeId) (i : TypeInfo) (ht : P.underlying t = some (.slice e)) (hu : (∃ e', P.underlying u = some (.slice e')) ∨ P.underlying u = some .string) (hi : P.info? e = some i)
    (base : Option Addr) (sLen sCap m : Nat) (x : Value) (news : List Value) (hlen : (Builtin.lenOf x).run P w = .ok m w) (hfc : (Builtin.firstCells i.size m x).run P w = .ok news.toArray w) (hroom : sLen + m ≤ sCap) {w' : World}
    (hst : ∀ a, base = some a → (storeCells (a.add (sLen * i.size)) news).run P w = .ok () w') (hno : base = none → w' = w) :
    (Builtin.append_ #[t, u] ty #[.slice base sLen sCap, x]).run P w = .ok (.slice base (sLen + m) sCap) w' := by
  cases base with
  | none =>
    rw [hno rfl]
    rcases hu with ⟨e', hu⟩ | hu <;>
      simp [Builtin.append_, run_underlying ht, run_underlying hu, sizeOf, typeInfo, hi, hlen, hroom, hfc]
  | some a =>
    have h := hst a rfl
    rcases hu with ⟨e', hu⟩ | hu <;>
      simp [Builtin.append_, run_underlying ht, run_underlying hu, sizeOf, typeInfo, hi, hlen, hroom, hfc, h]
theorem run_app_grow (t u ty e : TypeId) (i : TypeInfo) (z : Value) (ht : P.underlying t = some (.slice e)) (hu : (∃ e', P.underlying u = some (.slice e')) ∨ P.underlying u = some .string) (hi : P.info? e = some i) (hz : i.zero = some z)
    (base : Option Addr) (sLen sCap m : Nat) (x : Value) (olds news : List Value) (hlen : (Builtin.lenOf x).run P w = .ok m w)
    (hold : (Builtin.firstCells i.size sLen (.slice base sLen sCap)).run P w.drew = .ok olds.toArray w.drew)
    (hfc : (Builtin.firstCells i.size m x).run P w.drew = .ok news.toArray w.drew) (hg : sCap < sLen + m) (h63 : sLen + m ≤ 9223372036854775807) (hfit : (sLen + m) * i.bytes ≤ 140737488355328) :
    (Builtin.append_ #[t, u] ty #[.slice base sLen sCap, x]).run P w =
      .ok (.slice (some ⟨w.heap.size, 0, none⟩) (sLen + m) (grownCap w (sLen + m) sCap e))
        (w.drew.alloc (.cells (olds.toArray ++ news.toArray ++ Builtin.zeroCells z.cells (grownCap w (sLen + m) sCap e - (sLen + m))) e)) := by
  have hn : ¬ (sLen + m ≤ sCap) := by omega
  have h63' : ¬ (9223372036854775807 < ((sLen : Int) + (m : Int))) := by omega
  have h48 : Builtin.nextslicecap (sLen + m) sCap * i.bytes ≤ 281474976710656 := growslice_fits hg hfit
  have h48' : ¬ (281474976710656 < Builtin.nextslicecap (sLen + m) sCap * i.bytes) := by omega
  rcases hu with ⟨e', hu⟩ | hu
  · simp [Builtin.append_, run_underlying ht, run_underlying hu, sizeOf, typeInfo, zeroValue, hi, hz, hlen, hn, h63', h48', Question.forced, hfc, hold, newRow, grownCap]
    congr 2
    apply Array.ext'
    simp [List.append_assoc]
  · simp [Builtin.append_, run_underlying ht, run_underlying hu, sizeOf, typeInfo, zeroValue, hi, hz, hlen, hn, h63', h48', Question.forced, hfc, hold, newRow, grownCap]
    congr 2
    apply Array.ext'
    simp [List.append_assoc]
end
end Go.Ab
