/- A frame for walks over what values stand for, part Ab8. -/
import Derived.Test.YtknamhmjhmdikaaAb7
namespace Go.Ab
section
variable {P : Program} {G : Glo} {w : World}
theorem app_sound {h : Heap} (hh : HRep w h) {e : TypeId} {i : TypeInfo} {z : Value} {t u ty : TypeId} (ht : P.underlying t = some (.slice e)) (hu : (∃ e', P.underlying u = some (.slice e')) ∨ P.underlying u = some .string)
    (hi : P.info? e = some i) (hz : i.zero = some z) (hzs : z.cells.size = i.size) {x y : AV} {cx cy : Value} (hrx : Rep w h.dom x cx) (hry : Rep w h.dom y cy)
    {m : Nat} {cs : List AV} (hy : addedBy h i.size y = some (m, cs)) {Q : AV → Heap → Prop}
    (hs : appQ i.size i.bytes m cs x h Q) :
    ∃ c w' av h', (Builtin.append_ #[t, u] ty #[cx, cy]).run P w = .ok c w' ∧ Q av h' ∧ HRep w' h' ∧ Rep w' h'.dom av c ∧ Fr w h w' h' := by
  obtain ⟨hcs, news, hrn, hn1, hlen, hfc⟩ := addedBy_sound (P := P) hh hy hry
  have hnl : news.length = m * i.size := by rw [← hrn.1]; exact hcs
  have hzl : ∀ k, (Builtin.zeroCells z.cells k).size = k * i.size := fun k => by rw [size_zeroCells, hzs]
  unfold appQ at hs
  cases x <;> simp only at hs
  case nils =>
    obtain ⟨hb, h63, h0, h1⟩ := hs
    rw [rep_nils hrx]
    by_cases hm : m = 0
    · subst hm
      refine ⟨.slice none 0 0, w, .nils, h, ?_, h0 rfl, hh, .nils, Fr.refl _ _⟩
      have := run_app_room (P := P) (w := w) (w' := w) t u ty e i ht hu hi none 0 0 0 cy news hlen (hfc w rfl) (Nat.le_refl _) (fun a ha => by cases ha) (fun _ => rfl)
      simpa using this
    · have hrun := run_app_grow (P := P) (w := w) t u ty e i z ht hu hi hz none 0 0 m cy [] news hlen (by simp [Builtin.firstCells]) (hfc w.drew rfl) (by omega) (by omega) (by rw [Nat.zero_add]; exact hb)
      simp only [Nat.zero_add] at hrun
      have hge := grownCap_ge w m 0 e
      generalize grownCap w m 0 e = cap at hrun hge
      have hal := hrep_alloc hh (w1 := w.drew.alloc (.cells (#[] ++ news.toArray ++ Builtin.zeroCells z.cells (cap - m)) e)) (x := ⟨cs, (cap - m) * i.size⟩) rfl ⟨rfl, rfl, rfl⟩ (by simp [hzl, hrn.1]) (fun j v hv => by
        obtain ⟨cv, k1, k2, k3⟩ := repl_get hrn hn1 j v hv
        refine ⟨cv, ?_, k2, k3⟩
        have hlt : j < news.length := (List.getElem?_eq_some_iff.1 k1).1
        rw [Array.getElem?_append_left (by simpa using hlt)]
        simpa using k1)
      exact ⟨_, _, _, _, hrun, h1 (by omega) w.heap.size cap hal.1 hge, hal.2.1, .sl _ _ _ _ hge ⟨_, _, _, World.alloc_heap_new w.drew _⟩, hal.2.2⟩
  case sl b o n cap =>
    split at hs
    · exact hs.elim
    · rename_i x hb
      obtain ⟨h1, h2, hbytes, h63, hq⟩ := hs
      obtain ⟨p, hcx, hlc, hp⟩ := rep_sl hrx
      subst hcx
      have hblt := own_lt (hh b x hb)
      by_cases hroom : n + m ≤ cap
      · by_cases hz0 : n = 0 ∧ cap = 0
        · obtain ⟨rfl, rfl⟩ := hz0
          obtain rfl : m = 0 := by omega
          have hnil : news = [] := List.eq_nil_of_length_eq_zero (by omega)
          have hcn : cs = [] := List.eq_nil_of_length_eq_zero (by omega)
          subst hnil
          subst hcn
          have hQ := hq b (x.cells.take o) 0 x.spare (.inl rfl) (by omega)
          have ho : o ≤ x.cells.length := by omega
          rw [List.append_nil, List.take_append_drop, show (x.cells.take o).length = o by simp; omega] at hQ
          have heq : upd (era h b) b ⟨x.cells, x.spare⟩ = h := by
            funext b'
            simp only [upd, era]
            split
            · rename_i e; rw [e, hb]
            · rfl
          rw [heq] at hQ
          refine ⟨_, _, _, _, run_app_room (P := P) (w := w) t u ty e i ht hu hi (some p) 0 0 0 cy [] hlen (hfc w rfl) hroom (w' := w) (fun a ha => ?_) (fun hp0 => by cases hp0), hQ, hh, .sl0 _ _ _, Fr.refl _ _⟩
          cases ha
          simp [storeCells]
        obtain ⟨c, ty', hw, hsz, hc⟩ := hh.cells hb (rep_slC hrx hz0)
        have hfit : (n + m) * i.size ≤ cap * i.size := Nat.mul_le_mul_right _ hroom
        rw [Nat.add_mul] at hfit
        have hst := run_storeCells_at P b (o + n * i.size) ty' news 0 c w hw (by omega) hn1
        simp only [Nat.add_zero] at hst
        obtain ⟨k1, k2⟩ := hrep_set hh hb (x := ⟨x.cells ++ cs, x.spare - m * i.size⟩) (c := (c.toList.take (o + n * i.size) ++ news ++ c.toList.drop (o + n * i.size + news.length)).toArray) hw
          (by simp only [List.length_append, List.size_toArray, List.length_take, List.length_drop, Array.length_toList]; omega) (fun j v hv => by
            by_cases hj : j < x.cells.length
            · rw [List.getElem?_append_left hj] at hv
              obtain ⟨cv, e1, e2, e3⟩ := hc j v hv
              refine ⟨cv, ?_, e2, e3⟩
              rw [List.getElem?_toArray, List.getElem?_append_left (by simp; omega), List.getElem?_append_left (by simp; omega), List.getElem?_take, if_pos (by omega)]
              simpa using e1
            · rw [List.getElem?_append_right (by omega)] at hv
              obtain ⟨cv, e1, e2, e3⟩ := repl_get hrn hn1 _ v hv
              have hlt := (List.getElem?_eq_some_iff.1 e1).1
              refine ⟨cv, ?_, e2, e3⟩
              rw [List.getElem?_toArray, List.getElem?_append_left (by simp; omega), List.getElem?_append_right (by simp; omega)]
              simp only [List.length_take, Array.length_toList]
              rw [show min (o + n * i.size) c.size = x.cells.length by omega]
              exact e1)
        have hQ := hq b (x.cells.take o) cap (x.spare - m * i.size) (.inl rfl) (by rw [Nat.add_mul]; omega)
        have ho : o ≤ x.cells.length := by omega
        rw [List.take_append_drop, show (x.cells.take o).length = o by simp; omega] at hQ
        have heq : upd (era h b) b ⟨x.cells ++ cs, x.spare - m * i.size⟩ = upd h b ⟨x.cells ++ cs, x.spare - m * i.size⟩ := by
          funext b'
          simp only [upd, era]
          split <;> rfl
        rw [heq] at hQ
        refine ⟨_, _, _, _, run_app_room (P := P) (w := w) t u ty e i ht hu hi (some p) n cap m cy news hlen (hfc w rfl) hroom (w' := w.setRow b _) (fun a ha => ?_) (fun hp0 => by cases hp0), hQ, k1, ?_, k2⟩
        · cases ha
          rcases hp with ⟨rfl, rfl⟩ | rfl
          · have hm : m = 0 := by omega
            subst hm
            have hnil : news = [] := List.eq_nil_of_length_eq_zero (by omega)
            subst hnil
            simp only [Nat.zero_mul, Nat.add_zero, List.append_nil, List.length_nil, List.take_append_drop, Array.toArray_toList]
            rw [setRow_self w b c ty' (0, 0) hw]
            simp [storeCells]
          · rw [Addr.add_lit]
            exact hst
        · rcases hp with ⟨rfl, rfl⟩ | rfl
          · have hm : m = 0 := by omega
            subst hm
            exact .sl0 _ _ _
          · exact .sl _ _ _ _ hroom (k2.cel _ (rep_slC hrx hz0))
      · -- a new row
        have hat : At w h.dom b (0 + o) (x.cells.drop o) := by
          by_cases hz0 : n = 0 ∧ cap = 0
          · rw [List.drop_eq_nil_of_le (by rw [← h1, hz0.1]; omega)]; intro i v hv; cases hv
          · exact (hh.at hb (rep_slC hrx hz0)).drop o
        obtain ⟨olds, e1, e2, e3, e4⟩ := hat.list
        have hol : olds.length = n * i.size := by rw [e1]; simp; omega
        have hold : (Builtin.firstCells i.size n (.slice (some p) n cap)).run P w.drew = .ok olds.toArray w.drew := by
          rcases hp with ⟨rfl, rfl⟩ | rfl
          · have hnil : olds = [] := List.eq_nil_of_length_eq_zero (by omega)
            subst hnil
            simp [Builtin.firstCells, loadCells, loadCellsFrom]
          · exact run_firstCells_some w.drew i.size n _ _ _ olds hol fun j v hv => by
              rw [Addr.add_lit]
              have := e2 j v hv
              rw [Nat.zero_add] at this
              exact this
        have hrun := run_app_grow (P := P) (w := w) t u ty e i z ht hu hi hz (some p) n cap m cy olds news hlen hold (hfc w.drew rfl) (by omega) h63 hbytes
        have hge := grownCap_ge w (n + m) cap e
        generalize grownCap w (n + m) cap e = cap' at hrun hge
        have hal := hrep_alloc hh (w1 := w.drew.alloc (.cells (olds.toArray ++ news.toArray ++ Builtin.zeroCells z.cells (cap' - (n + m))) e)) (x := ⟨x.cells.drop o ++ cs, (cap' - (n + m)) * i.size⟩) rfl ⟨rfl, rfl, rfl⟩
          (by simp only [List.length_append, Array.size_append, List.size_toArray, hzl]; rw [← e1, hrn.1]) (fun j v hv => by
            obtain ⟨cv, k1, k2, k3⟩ := repl_get (e4.append hrn) (fun v hv => by rcases List.mem_append.1 hv with h | h; exact e3 v h; exact hn1 v h) j v hv
            refine ⟨cv, ?_, k2, k3⟩
            have hlt : j < (olds ++ news).length := (List.getElem?_eq_some_iff.1 k1).1
            rw [Array.getElem?_append_left (by simpa using hlt)]
            simpa using k1)
        have hQ := hq w.heap.size [] cap' ((cap' - (n + m)) * i.size) (.inr hal.1) (by rw [← Nat.add_mul]; exact Nat.le_of_eq (by rw [Nat.add_sub_cancel' hge]))
        simp only [List.nil_append, List.length_nil] at hQ
        have hbne : b ≠ w.heap.size := by omega
        obtain ⟨l1, l2⟩ := hrep_less (h' := upd (era h b) w.heap.size ⟨x.cells.drop o ++ cs, (cap' - (n + m)) * i.size⟩) hal.2.1 (fun b' y hy => by
          simp only [upd, era] at hy ⊢
          split at hy
          · rename_i e1
            rw [if_pos e1]
            exact hy
          · rename_i e1
            rw [if_neg e1]
            split at hy
            · cases hy
            · exact hy)
        exact ⟨_, _, _, _, hrun, hQ, l1, .sl _ _ _ _ hge ⟨_, _, _, World.alloc_heap_new w.drew _⟩, hal.2.2.trans l2⟩
/-- The widest fence, in a round or outside of one. -/
abbrev FR (ro : Option Nat) : Fence := { Fence.wide with round := ro }
theorem callsFR {ro : Option Nat} {f : FuncId} {args : Array Value} {w : World} {R : Ending → World → Prop} (h : Calls P f args w R) : CallsIn (FR ro) 0 P f args w R := callsIn_wide.2 h
theorem callsFR' {ro : Option Nat} {f : FuncId} {args : Array Value} {w : World} {R : Ending → World → Prop} (h : CallsIn (FR ro) 0 P f args w R) : Calls P f args w R := callsIn_wide.1 (show CallsIn Fence.wide 0 P f args w R from h)
theorem wpIn_run {ro : Option Nat} {o : Oper} {a : Act} {w : World} {next : Act → World → Prop} {R : Exit → Act → World → Prop} (hd : ∀ c, o.op ≠ .defer c)
    (h : o.uponIn (FR ro) 0 P a next R ((execOp a.eval o).run P w)) : o.wpIn (FR ro) 0 P a w next R := by
  refine ⟨fun _ _ => trivial, ?_⟩
  rw [Oper.semAt_eq _ _ _ hd]
  exact h
/-- An operation that acts, run. -/
theorem stE_sound0 (o : Oper) {k : EK} (ht : trK P o.op = some (.e k)) {a : Act} {ρ : Env} {h : Heap} (hh : HRep w h) (hg : GRep G w h.dom)
    (hx : ∀ x : Operand, x ∈ o.op.operands → Rep w h.dom (xv G ρ x) (a.eval x)) {Q : AV → Heap → Prop} (hs : stE P G k ρ h Q) {next : Act → World → Prop} {R : Exit → Act → World → Prop}
    (hn : ∀ c w' av h', Q av h' → HRep w' h' → Rep w' h'.dom av c → Fr w h w' h' → next (a.put o.dst c) w') {ro : Option Nat} : o.wpIn (FR ro) 0 P a w next R := by
  have hd : ∀ c, o.op ≠ .defer c := by intro c e; rw [e] at ht; cases ht
  have val : ∀ {c : Value} {w' : World} {av : AV} {h' : Heap}, (execOp a.eval o).run P w = .ok (.value c) w' → Q av h' → HRep w' h' → Rep w' h'.dom av c → Fr w h w' h' → o.wpIn (FR ro) 0 P a w next R := by
    intro c w' av h' e h1 h2 h3 h4
    refine wpIn_run hd ?_
    rw [e, Oper.uponIn_value]
    exact hn c w' av h' h1 h2 h3 h4
  obtain ⟨dst, op, type, pos, after, guard⟩ := o
  simp only at ht hx
  have call : ∀ (f : Nat) (args : List AV) (vs : List Value), (execOp a.eval { dst, op, type, pos, after, guard }).run P w = .ok (.enter f vs.toArray) w → RepL w h.dom args vs → Spec P G f args h Q →
      ({ dst, op, type, pos, after, guard } : Oper).wpIn (FR ro) 0 P a w next R := by
    intro f args vs e hr hsp
    refine wpIn_run hd ?_
    rw [e, Oper.uponIn_enter]
    refine ⟨fun e => (by cases e), callsFR ((hsp w vs hh hg hr).mono ?_)⟩
    rintro e' w' ⟨v, r, h', rfl, h1, h2, h3, h4⟩
    exact hn v w' r h' h1 h2 h3 h4
  have cf : ∀ (f : Nat) (fn : Func) (vs : Array Value), P.funcs[f]? = some fn → fn.body.isSome ∧ (fn.name == "runtime.NumGoroutine") = false → (callFunc f vs).run P w = .ok (.enter f vs) w := by
    intro f fn vs hf ⟨h1, h2⟩
    have h3 : fn.body.isNone = false := by cases e : fn.body <;> simp_all
    simp only [callFunc, Sem.run_bind, run_program, Result.andThen_ok, hf, h2, Bool.false_eq_true, if_false, h3]
    rfl
  cases op <;> simp only [trK] at ht
  case assign x =>
    cases ht
    exact val rfl hs hh (hx x (by simp [Op.operands])) (Fr.refl _ _)
  case alloc t =>
    obtain ⟨z, hz, hk⟩ := Option.map_eq_some_iff.1 ht
    cases hk
    obtain ⟨zv, h1, h2⟩ := zero_rep (w := w) (O := h.dom) hz
    obtain ⟨cs, hc, hl, ho, hr⟩ := rep_agg h2
    cases hc
    have hal := hrep_alloc hh (w1 := w.alloc (.cells zv.cells t)) (x := ⟨z, 0⟩) rfl ⟨rfl, rfl, rfl⟩ (by simpa using hl) (fun i v hv => by
      have hlt : i < z.length := (List.getElem?_eq_some_iff.1 hv).1
      have hcs : zv.cells[i]? = some (zv.cells[i]'(by omega)) := Array.getElem?_eq_getElem _
      exact ⟨_, hcs, ho i _ hcs, hr i v _ hv hcs⟩)
    exact val (c := .pointer (some ⟨w.heap.size, 0, none⟩)) (w' := w.alloc (.cells zv.cells t)) (by simp [execOp, Instr.alloc, h1, newVar, newRow]) (hs w.heap.size hal.1) hal.2.1 (.ptr _ _ ⟨_, _, _, World.alloc_heap_new w _⟩) hal.2.2
  case box t x =>
    cases ht
    simp only [stE] at hs
    split at hs
    · rename_i cs hcs
      obtain ⟨hr, h1⟩ := cellsOf_rep (hx x (by simp [Op.operands])) hcs
      have hal := hrep_alloc hh (w1 := w.alloc (.cells (a.eval x).cells t)) (x := ⟨cs, 0⟩) rfl ⟨rfl, rfl, rfl⟩ (by simpa using hr.1) (fun i v hv => by
        obtain ⟨cv, k1, k2, k3⟩ := repl_get hr h1 i v hv
        exact ⟨cv, by simpa using k1, k2, k3⟩)
      exact val (c := .pointer (some ⟨w.heap.size, 0, none⟩)) (w' := w.alloc (.cells (a.eval x).cells t)) (by simp [execOp, Instr.box, newVar, newRow]) (hs w.heap.size hal.1) hal.2.1 (.ptr _ _ ⟨_, _, _, World.alloc_heap_new w _⟩) hal.2.2
    · exact hs.elim
  case buildSlice t len parts =>
    split at ht
    · rename_i e hu
      simp only [Option.bind_eq_bind, Option.bind_eq_some_iff] at ht
      obtain ⟨z, hz, n, hn', hk⟩ := ht
      split at hk
      · rename_i hc
        simp only [Option.some.injEq, K.e.injEq] at hk
        subst hk
        simp only [stE] at hs
        split at hs
        · rename_i cs hcs
          obtain ⟨zv, h1, h2⟩ := zero_rep (w := w) (O := h.dom) hz
          obtain ⟨zc, hzc, hl, ho, hr⟩ := rep_agg h2
          cases hzc
          have hzn : zv.cells.size = n := by omega
          have hbase : Rep w h.dom (.agg ((List.range (len * n)).map fun i => z.getD (i % n) .any)) (.agg ((Array.range (len * n)).map (zv.cells[· % zv.cells.size]!))) := by
            refine .agg _ _ (by simp) (fun i c hc => ?_) (fun i v c hv hc => ?_)
            · simp only [Array.getElem?_map, Option.map_eq_some_iff] at hc
              obtain ⟨j, _, rfl⟩ := hc
              have hlt : j % zv.cells.size < zv.cells.size := Nat.mod_lt _ (by omega)
              rw [getElem!_pos zv.cells _ hlt]
              exact ho _ _ (Array.getElem?_eq_getElem hlt)
            · simp only [List.getElem?_map, Option.map_eq_some_iff] at hv
              simp only [Array.getElem?_map, Option.map_eq_some_iff] at hc
              obtain ⟨j, hj, rfl⟩ := hv
              obtain ⟨j', hj', rfl⟩ := hc
              have e1 : j = i := by
                have := (List.getElem?_eq_some_iff.1 hj).2
                simpa using this.symm
              have e2 : j' = i := by
                have := (Array.getElem?_eq_some_iff.1 hj').2
                simpa using this.symm
              rw [e1, e2]
              clear e1 e2 hj hj'
              have hlt : i % n < zv.cells.size := by rw [hzn]; exact Nat.mod_lt _ hc.1
              rw [hzn, getElem!_pos zv.cells _ hlt]
              refine hr (i % n) _ _ ?_ (Array.getElem?_eq_getElem hlt)
              rw [List.getD_eq_getElem?_getD, List.getElem?_eq_getElem (by omega)]
              rfl
          obtain ⟨cs', hf, hout⟩ := afill_sound (G := G) (ρ := ρ) (a := a) (place := fun i => some (i * n, n)) parts.toList _ _ _ cs (by simp) (fun j i x off n' y h1 h2 => by
            simp only [List.getElem?_map, Option.map_eq_some_iff] at h2
            obtain ⟨⟨i', x'⟩, h3, h4⟩ := h2
            simp at h1 h3
            rw [h1] at h3
            cases h3
            simp only [Prod.mk.injEq] at h4
            obtain ⟨rfl, rfl, rfl⟩ := h4
            exact ⟨rfl, rfl⟩) (fun p hp => hx p.2 (by simp [Op.operands]; exact ⟨p.1, by simpa using hp⟩)) hbase hcs
          obtain ⟨cc, hcc, hl', ho', hr'⟩ := rep_agg hout
          cases hcc
          have hal := hrep_alloc hh (w1 := w.alloc (.cells cs' e)) (x := ⟨cs, 0⟩) rfl ⟨rfl, rfl, rfl⟩ (by simpa using hl') (fun i v hv => by
            have hlt : i < cs.length := (List.getElem?_eq_some_iff.1 hv).1
            have hcs : cs'[i]? = some (cs'[i]'(by omega)) := Array.getElem?_eq_getElem _
            exact ⟨_, hcs, ho' i _ hcs, hr' i v _ hv hcs⟩)
          refine val (c := .slice (some ⟨w.heap.size, 0, none⟩) len len) (w' := w.alloc (.cells cs' e)) ?_ (hs w.heap.size hal.1) hal.2.1 (.sl _ _ _ _ (Nat.le_refl _) ⟨_, _, _, World.alloc_heap_new w _⟩) hal.2.2
          have hz4 : ¬ (len * n > 2 ^ 24) := by omega
          have fin : ∀ zc : Array Value, (Array.range (len * n)).map (zc[· % zc.size]!) = (Array.range (len * n)).map (zv.cells[· % zv.cells.size]!) →
              (match Instr.fill (fun i => some (i * n, n)) ((Array.range (len * n)).map (zc[· % zc.size]!)) ((parts.map fun (x : Nat × Operand) => (x.1, a.eval x.2)).toList) with
                | some cells => (do pure (Value.slice (some (← newRow e cells)) len len) : Sem Value)
                | x => (stuck "buildSlice: a part of the wrong size" : Sem Value)).run P w = .ok (.slice (some ⟨w.heap.size, 0, none⟩) len len) (w.alloc (.cells cs' e)) := by
            intro zc hzc
            rw [hzc, Array.toList_map, hf]
            rfl
          by_cases e0 : len * n = 0
          · have := fin #[] (by rw [e0]; simp)
            simp only [execOp, Instr.buildSlice, Sem.run_bind, run_underlying hu, Result.andThen_ok, run_sz hn', Sem.run_ite, if_neg hz4, Sem.run_pure, if_pos e0]
            exact congrArg (fun r => Result.andThen r fun a w' => Result.ok (Next.value a) w') this
          · have := fin zv.cells rfl
            simp only [execOp, Instr.buildSlice, Sem.run_bind, run_underlying hu, Result.andThen_ok, run_sz hn', Sem.run_ite, if_neg hz4, Sem.run_pure, if_neg e0, h1]
            exact congrArg (fun r => Result.andThen r fun a w' => Result.ok (Next.value a) w') this
        · exact hs.elim
      · cases hk
    · cases ht
  case store t x y =>
    obtain ⟨n, hn', hk⟩ := Option.map_eq_some_iff.1 ht
    cases hk
    simp only [stE] at hs
    split at hs
    · rename_i h' he
      obtain ⟨w', h1, h2, h3⟩ := asto_sound (P := P) hh hn' he (hx x (by simp [Op.operands])) (hx y (by simp [Op.operands]))
      refine wpIn_run hd ?_
      have : (execOp a.eval { dst, op := .store t x y, type, pos, after, guard }).run P w = .ok .skip w' := by
        simp only [execOp, Sem.run_bind, h1, Result.andThen_ok]
        rfl
      rw [this, Oper.uponIn_skip]
      exact hn undef w' (.tup []) h' hs h2 rep_undef h3
    · exact hs.elim
  case binOp op t x y yt =>
    unfold trBin at ht
    split at ht
    · cases ht
    · cases ht
    · split at ht <;> cases ht
    · split at ht
      · cases ht
      · split at ht <;> cases ht
    · rename_i e hu
      split at ht
      · have key : ∀ neg, stE P G (.nilq neg x) ρ h Q → ∃ c av, (do eqGuard (if neg then .neq else .eql) t x (.const (.slice none 0 0)) (a.eval x) (.slice none 0 0); binOp (if neg then .neq else .eql) t (a.eval x) (.slice none 0 0) : Sem Value).run P w = .ok c w ∧ Q av h ∧ Rep w h.dom av c := by
          intro neg hs
          have hr := hx x (by simp [Op.operands])
          have go : ∀ (p : Option Addr) (n c : Nat), a.eval x = .slice p n c → Q (.bool (p.isNone != neg)) h → ∃ c av, (do eqGuard (if neg then .neq else .eql) t x (.const (.slice none 0 0)) (a.eval x) (.slice none 0 0); binOp (if neg then .neq else .eql) t (a.eval x) (.slice none 0 0) : Sem Value).run P w = .ok c w ∧ Q av h ∧ Rep w h.dom av c := by
            intro p n c h1 h2
            rw [h1]
            refine ⟨.bool (p.isNone != neg), _, ?_, h2, .bool _⟩
            cases neg
            · simp only [Bool.false_eq_true, if_false, Sem.run_bind]
              rw [show (eqGuard .eql t x (.const (.slice none 0 0)) (.slice p n c) (.slice none 0 0)).run P w = .ok () w from rfl]
              have := Lib.run_eql_slice_nil (P := P) w t e p n c 0 0 hu
              cases p <;> exact this
            · simp only [if_true, Sem.run_bind]
              rw [show (eqGuard .neq t x (.const (.slice none 0 0)) (.slice p n c) (.slice none 0 0)).run P w = .ok () w from rfl]
              have := run_neq_slice_nil_any (P := P) w t e p n c 0 0 hu
              cases p <;> exact this
          simp only [stE] at hs
          split at hs
          · rename_i he
            rw [he] at hr
            exact go none 0 0 (rep_nils hr) (by cases neg <;> exact hs)
          · rename_i he
            rw [he] at hr
            obtain ⟨p, hc, _, hp⟩ := rep_sl hr
            exact go _ _ _ hc (by cases neg <;> exact hs)
          · rename_i cells n he
            rw [he] at hr
            obtain ⟨p, cap, hc, _, hp⟩ := rep_ro hr
            cases p with
            | none =>
              rcases hp with ⟨_, rfl⟩ | ⟨_, _, _, hp, _⟩
              · exact go none 0 cap hc (by cases neg <;> exact hs.1 rfl)
              · cases hp
            | some p => exact go _ _ _ hc (by cases neg <;> exact hs.2)
          · exact hs.elim
        split at ht
        · cases ht
          obtain ⟨c, av, h1, h2, h3⟩ := key false hs
          exact val (by simp only [execOp]; rw [Sem.run_bind]; simp only [Bool.false_eq_true, if_false] at h1; rw [show a.eval (.const (.slice none 0 0)) = .slice none 0 0 from rfl, h1]; rfl) h2 hh h3 (Fr.refl _ _)
        · cases ht
          obtain ⟨c, av, h1, h2, h3⟩ := key true hs
          exact val (by simp only [execOp]; rw [Sem.run_bind]; simp only [if_true] at h1; rw [show a.eval (.const (.slice none 0 0)) = .slice none 0 0 from rfl, h1]; rfl) h2 hh h3 (Fr.refl _ _)
        · cases ht
      · cases ht
    · split at ht
      · split at ht <;> cases ht
      · cases ht
    · split at ht
      · cases ht
      · split at ht
        · cases ht
        · split at ht <;> cases ht
    · split at ht
      · cases ht
      · split at ht
        · cases ht
        · split at ht <;> cases ht
    · cases ht
  case call c =>
    obtain ⟨callee, args, argTypes⟩ := c
    unfold trCall at ht
    have hargs : ∀ y ∈ args.toList, Rep w h.dom (xv G ρ y) (a.eval y) := fun y hy => hx y (by simp [Op.operands, Call.operands]; exact .inr (by simpa using hy))
    cases callee with
    | invoke r m => simp at ht
    | value f =>
      have hcv : stE P G (.callv f args.toList) ρ h Q → ({ dst, op := .call ⟨.value f, args, argTypes⟩, type, pos, after, guard } : Oper).wpIn (FR ro) 0 P a w next R := by
        intro hs
        have hf := hx f (by simp [Op.operands, Call.operands])
        simp only [stE] at hs
        split at hs
        · rename_i f' first caps he
          obtain ⟨⟨fn, h1, h2⟩, h3⟩ := hs
          rw [he] at hf
          obtain ⟨as, cs, hc, ha, hcp⟩ := rep_fn hf
          refine call f' _ (as.toList ++ args.toList.map a.eval ++ cs.toList) ?_ ((ha.append (repl_map hargs)).append hcp) h3
          simp only [execOp, resolve, hc, Deferred.ofValue, Sem.run_bind, Sem.run_pure, Result.andThen_ok, invoke, cf f' fn _ h1 h2]
          congr 2
          apply Array.ext'
          simp
        · rename_i l he
          obtain ⟨hy, hs⟩ := hs
          rw [he] at hf
          have hc := rep_yl hf
          obtain ⟨fn, tmps, assign, body, h1, h2⟩ := hy l _ h Q hs w (args.toList.map a.eval) hh hg (repl_map hargs)
          have e : (execOp a.eval { dst, op := .call ⟨.value f, args, argTypes⟩, type, pos, after, guard }).run P w = .ok (.round l fn tmps assign body) w := by
            simp only [execOp, resolve, hc, Deferred.ofValue, Sem.run_bind, Sem.run_pure, Result.andThen_ok, invoke]
            rw [← h1]
            congr 2
            apply Array.ext'
            simp
          refine wpIn_run hd ?_
          rw [e, Oper.uponIn_round]
          refine ⟨fun e => (by cases e), h2.mono ?_⟩
          rintro e' w' ⟨v, r, h', rfl, k1, k2, k3, k4⟩
          exact hn v w' r h' k1 k2 k3 k4
        · exact hs.elim
      cases f with
      | func f =>
        simp only at ht
        split at ht
        · rename_i fn hf
          split at ht
          · rename_i hc
            cases ht
            refine call f (args.toList.map (xv G ρ)) (args.toList.map a.eval) ?_ (repl_map hargs) hs
            simp only [execOp, resolve, Act.eval, Deferred.ofValue, Sem.run_bind, Sem.run_pure, Result.andThen_ok, invoke, cf f fn _ hf hc]
            congr 2
            apply Array.ext'
            simp
          · cases ht
        · cases ht
      | tmp t => cases ht; exact hcv hs
      | const v => cases ht; exact hcv hs
      | global g => cases ht; exact hcv hs
    | builtin b =>
      simp only at ht
      unfold trBuiltin at ht
      split at ht
      · split at ht <;> cases ht
      · cases ht
      · cases ht
      · rename_i x y t u e1 e2
        have ea : args = #[x, y] := Array.toList_inj.1 (by simpa using e1)
        have et : argTypes = #[t, u] := Array.toList_inj.1 (by simpa using e2)
        subst ea
        subst et
        have hrx := hargs x (by simp)
        have hry := hargs y (by simp)
        have key : ∀ (e : TypeId) (i : TypeInfo) (z : Value), P.underlying t = some (.slice e) → ((∃ e', P.underlying u = some (.slice e')) ∨ P.underlying u = some .string) → P.info? e = some i → i.zero = some z → z.cells.size = i.size →
            stE P G (.app i.size i.bytes x y) ρ h Q → ({ dst, op := .call ⟨.builtin .append, #[x, y], #[t, u]⟩, type, pos, after, guard } : Oper).wpIn (FR ro) 0 P a w next R := by
          intro e i z ht hu hi hz hzs hs
          simp only [stE] at hs
          split at hs
          · exact hs.elim
          · rename_i m cs hy
            obtain ⟨c, w', av, h', r1, r2, r3, r4, r5⟩ := app_sound (ty := type) hh ht hu hi hz hzs hrx hry hy hs
            exact val (by simp only [execOp, resolve, invoke, builtin, Sem.run_bind, Sem.run_pure, Result.andThen_ok]; rw [show (#[x, y] : Array Operand).map a.eval = #[a.eval x, a.eval y] by simp, r1]; rfl) r2 r3 r4 r5
        split at ht
        · rename_i e e' h1 h2
          split at ht
          · rename_i i hi
            split at ht
            · rename_i z hz
              split at ht
              · rename_i hc
                cases ht
                exact key e i z h1 (.inl ⟨e', h2⟩) hi hz hc.1 hs
              · cases ht
            · cases ht
          · cases ht
        · rename_i e h1 h2
          split at ht
          · rename_i i hi
            split at ht
            · rename_i z hz
              split at ht
              · rename_i hc
                cases ht
                exact key e i z h1 (.inr h2) hi hz hc.1 hs
              · cases ht
            · cases ht
          · cases ht
        · cases ht
      · rename_i x y t u e1 e2
        have ea : args = #[x, y] := Array.toList_inj.1 (by simpa using e1)
        have et : argTypes = #[t, u] := Array.toList_inj.1 (by simpa using e2)
        subst ea
        subst et
        have hrx := hargs x (by simp)
        have hry := hargs y (by simp)
        split at ht
        · rename_i e hu
          split at ht
          · rename_i n hn
            cases ht
            simp only [stE] at hs
            split at hs
            · exact hs.elim
            · rename_i m cs hy
              obtain ⟨c, w', av, h', r1, r2, r3, r4, r5⟩ := cpy_sound (u := u) (ty := type) hh hu hn hrx hry hy hs
              exact val (by simp only [execOp, resolve, invoke, builtin, Sem.run_bind, Sem.run_pure, Result.andThen_ok]; rw [show (#[x, y] : Array Operand).map a.eval = #[a.eval x, a.eval y] by simp, r1]; rfl) r2 r3 r4 r5
          · cases ht
        · cases ht
      · rename_i x i t ts e1 e2
        have ea : args = #[x, i] := Array.toList_inj.1 (by simpa using e1)
        have et : argTypes = (t :: ts).toArray := Array.toList_inj.1 (by simpa using e2)
        subst ea
        subst et
        obtain ⟨⟨k, e⟩, hm, hk⟩ := Option.map_eq_some_iff.1 ht
        cases hk
        simp only [stE] at hs
        obtain ⟨w', h', h1, h2, h3, h4⟩ := dlt_sound (P := P) (ty := type) hh hm ts (hargs x (by simp)) (hargs i (by simp)) hs
        exact val (c := .tuple #[]) (by simp only [execOp, resolve, invoke, builtin, Sem.run_bind, Sem.run_pure, Result.andThen_ok]; rw [show (#[x, i] : Array Operand).map a.eval = #[a.eval x, a.eval i] by simp, h1]; rfl) h2 h3 rep_undef h4
      · cases ht
  case mapUpdate t m i v =>
    obtain ⟨⟨k, e⟩, hm, hk⟩ := Option.map_eq_some_iff.1 ht
    cases hk
    simp only [stE] at hs
    obtain ⟨w', h', h1, h2, h3, h4⟩ := mup_sound (P := P) hh hm (hx m (by simp [Op.operands])) (hx i (by simp [Op.operands])) (hx v (by simp [Op.operands])) hs
    refine wpIn_run hd ?_
    have : (execOp a.eval { dst, op := .mapUpdate t m i v, type, pos, after, guard }).run P w = .ok .skip w' := by
      simp only [execOp, Sem.run_bind, h1, Result.andThen_ok]
      rfl
    rw [this, Oper.uponIn_skip]
    exact hn undef w' (.tup []) h' h2 h3 rep_undef h4
  case insert t m i v =>
    obtain ⟨⟨k, e⟩, hm, hk⟩ := Option.map_eq_some_iff.1 ht
    cases hk
    simp only [stE] at hs
    obtain ⟨w', h', h1, h2, h3, h4⟩ := mup_sound (P := P) hh hm (hx m (by simp [Op.operands])) (hx i (by simp [Op.operands])) (hx v (by simp [Op.operands])) hs
    refine wpIn_run hd ?_
    have : (execOp a.eval { dst, op := .insert t m i v, type, pos, after, guard }).run P w = .ok .skip w' := by
      simp only [execOp, Sem.run_bind, h1, Result.andThen_ok]
      rfl
    rw [this, Oper.uponIn_skip]
    exact hn undef w' (.tup []) h' h2 h3 rep_undef h4
  case makeMap t r =>
    cases r with
    | some r => cases ht
    | none =>
      simp only at ht
      split at ht
      · cases ht
        simp only [stE] at hs
        have hal := hrep_new_obj hh (w1 := w.alloc (.map #[] 0)) (o := .map #[] 0) (x := ⟨[.raw (.map #[] 0)], 0⟩) rfl ⟨rfl, rfl, rfl⟩ (fun _ => .inr ⟨_, rfl, rfl, World.alloc_heap_new w _⟩)
        exact val (c := .map (some w.heap.size)) (w' := w.alloc (.map #[] 0)) (by simp only [execOp, Option.map_none, Sem.run_bind, RowKit.run_makeMap, Result.andThen_ok]; rfl) (hs _ hal.1) hal.2.1 (.mpp _) hal.2.2
      · cases ht
  case lookup t x i ok =>
    split at ht
    · obtain ⟨_, _, hk⟩ := Option.map_eq_some_iff.1 ht
      cases hk
    · cases ht
  case makeSlice t x y =>
    split at ht
    · rename_i e hu
      split at ht
      · rename_i i hi
        split at ht
        · rename_i z hz
          split at ht
          · rename_i hc
            cases ht
            simp only [stE] at hs
            obtain ⟨c, w', av, h', r1, r2, r3, r4, r5⟩ := mks_sound hh hu hi hz hc.1 hc.2.1 (hx x (by simp [Op.operands])) (hx y (by simp [Op.operands])) hs
            exact val (by simp only [execOp, Sem.run_bind, r1, Result.andThen_ok, Sem.run_pure]) r2 r3 r4 r5
          · cases ht
        · cases ht
      · cases ht
    · cases ht
  case load t x => cases h' : shapeOf P t <;> simp [h'] at ht
  case build t parts =>
    simp only [Option.bind_eq_bind, Option.bind_eq_some_iff] at ht
    obtain ⟨_, _, _, _, hk⟩ := ht
    cases hk
  case convert s d x =>
    split at ht
    · cases ht
    · split at ht <;> cases ht
    · cases ht
  case makeFunc fn f c => cases fn <;> cases ht
  case fieldAddr s x f => 
    split at ht
    · split at ht <;> cases ht
    · cases ht
  case field s x f =>
    split at ht
    · rename_i fd _
      cases h' : shapeOf P fd.type <;> simp [h'] at ht
    · cases ht
  case indexAddr t x i =>
    split at ht
    · rename_i e _
      cases h' : szOf P e <;> simp [h'] at ht
    · rename_i e _
      cases h' : szOf P e <;> simp [h'] at ht
    · cases ht
  case index t x i =>
    split at ht
    · simp only [Option.bind_eq_bind, Option.bind_eq_some_iff] at ht
      obtain ⟨_, _, _, _, hk⟩ := ht
      cases hk
    · cases ht
    · cases ht
  case slice t x lo hi mx =>
    cases mx with
    | some m =>
      cases hi with
      | none => simp at ht
      | some hi =>
        simp only at ht
        split at ht
        · rename_i e _
          cases h' : szOf P e <;> simp [h'] at ht
        · cases ht
    | none =>
      simp only at ht
      split at ht
      · rename_i e _
        cases h' : szOf P e <;> simp [h'] at ht
      · rename_i e _
        cases h' : szOf P e <;> simp [h'] at ht
      · cases ht
      · cases ht
  all_goals cases ht
theorem Fr.less {w w' : World} {h h1 h2 : Heap} (hf : Fr w h w' h1) (hl : ∀ b, h1 b = none → h2 b = none) : Fr w h w' h2 :=
  ⟨hf.size, fun b hb hn => ⟨hl b (hf.blk b hb hn).1, (hf.blk b hb hn).2⟩, hf.cel, hf.os, hf.tape, hf.out⟩
/-- A block that is new and will not be written: data that stays. -/
theorem hrep_new {h : Heap} {b : Nat} {x : Blk} (hb : h b = none) (hh : HRep w (upd h b x)) : HRep w h ∧ (∀ c, (upd h b x) c = none → h c = none) ∧ b < w.heap.size ∧
    (isC w b → ∀ (i : Nat) (v : AV), x.cells[i]? = some v → ∃ cv, w.cell? ⟨b, i, none⟩ = some cv ∧ cv.oneCell' = true ∧ Rep w h.dom v cv) := by
  have hsub : ∀ c y, h c = some y → upd h b x c = some y := by
    intro c y e
    have : c ≠ b := by rintro rfl; rw [hb] at e; cases e
    simp [upd, this, e]
  obtain ⟨k1, k2⟩ := hrep_less hh hsub
  refine ⟨k1, fun c hc => ?_, ?_, fun hk i v hv => ?_⟩
  · cases e : h c with
    | none => rfl
    | some y => rw [hsub c y e] at hc; cases hc
  · exact own_lt (hh b x (by simp [upd]))
  · obtain ⟨cv, e1, e2, e3⟩ := (hh.at (b := b) (x := x) (by simp [upd]) hk) i v hv
    exact ⟨cv, by simpa using e1, e2, e3.keep k2.keeps⟩
theorem stE_sound (o : Oper) {k : EK} (ht : trK P o.op = some (.e k.bare)) {a : Act} {ρ : Env} {h : Heap} (hh : HRep w h) (hg : GRep G w h.dom)
    (hx : ∀ x : Operand, x ∈ o.op.operands → Rep w h.dom (xv G ρ x) (a.eval x)) {Q : AV → Heap → Prop} (hs : stE P G k ρ h Q) {next : Act → World → Prop} {R : Exit → Act → World → Prop}
    (hn : ∀ c w' av h', Q av h' → HRep w' h' → Rep w' h'.dom av c → Fr w h w' h' → next (a.put o.dst c) w') {ro : Option Nat} : o.wpIn (FR ro) 0 P a w next R := by
  cases k
  case bxr x =>
    simp only [stE] at hs
    split at hs
    · rename_i cs hcs
      refine stE_sound0 o (k := .box x) ht hh hg hx (Q := fun r h' => ∃ b, h b = none ∧ r = .ptr b 0 ∧ h' = upd h b ⟨cs, 0⟩) (by simp only [stE, hcs]; exact fun b hb => ⟨b, hb, rfl, rfl⟩) ?_
      rintro c w' av h' ⟨b, hb, rfl, rfl⟩ k1 k2 k3
      obtain ⟨l1, l2, l3, l4⟩ := hrep_new hb k1
      have l4 := l4 (rep_ptrC k2)
      refine hn c w' _ h hs l1 ?_ (k3.less l2)
      rw [rep_ptr k2]
      exact .cp cs 0 b 0 (fun i => (w'.cell? ⟨b, i, none⟩).getD undef) l3 (fun hd => hd hb) (fun i v hv => by
        obtain ⟨cv, e1, e2, _⟩ := l4 i v hv
        rw [Nat.zero_add, e1]; exact ⟨rfl, e2⟩) (fun i v hv => by
        obtain ⟨cv, e1, _, e3⟩ := l4 i v hv
        rw [e1]; exact e3)
    · exact hs.elim
  case bsr len cells parts =>
    simp only [stE] at hs
    split at hs
    · rename_i cs hcs
      refine stE_sound0 o (k := .bsl len cells parts) ht hh hg hx (Q := fun r h' => ∃ b, h b = none ∧ r = .sl b 0 len len ∧ h' = upd h b ⟨cs, 0⟩) (by simp only [stE, hcs]; exact fun b hb => ⟨b, hb, rfl, rfl⟩) ?_
      rintro c w' av h' ⟨b, hb, rfl, rfl⟩ k1 k2 k3
      obtain ⟨l1, l2, l3, l4⟩ := hrep_new hb k1
      refine hn c w' _ h hs.2 l1 ?_ (k3.less l2)
      obtain ⟨ad, rfl, hlc, ha⟩ := rep_sl k2
      by_cases hl0 : len = 0
      · rw [hs.1 hl0, hl0]; exact .roe _ _
      rcases ha with ⟨e, _⟩ | rfl
      · rw [hs.1 e, e]; exact .roe _ _
      · have l4 := l4 (rep_slC k2 (fun q => hl0 q.1))
        refine .ro cs len len b 0 (fun i => (w'.cell? ⟨b, i, none⟩).getD undef) hlc l3 (fun hd => hd hb) (fun i v hv => ?_) (fun i v hv => ?_)
        · obtain ⟨cv, e1, e2, _⟩ := l4 i v hv
          rw [Nat.zero_add, e1]; exact ⟨rfl, e2⟩
        · obtain ⟨cv, e1, _, e3⟩ := l4 i v hv
          rw [e1]; exact e3
    · exact hs.elim
  all_goals exact stE_sound0 o ht hh hg hx hs hn
end
end Go.Ab
