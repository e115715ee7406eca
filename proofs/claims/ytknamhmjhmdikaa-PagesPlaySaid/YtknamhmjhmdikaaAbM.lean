/- A frame for walks over what values stand for, part AbM: maps whose keys are numbers. -/
import Derived.Test.YtknamhmjhmdikaaAb5
import Derived.MapKept
import Derived.Carry
namespace Go.Ab
section
variable {P : Program} {G : Glo} {w : World} {O : Nat → Prop}
theorem map_of {t : TypeId} {k : IntKind} {e : TypeId} (h : mapOf P t = some (k, e)) : ∃ kt, P.underlying t = some (.map kt e) ∧ P.underlying kt = some (.int k) := by
  unfold mapOf at h
  split at h
  · rename_i kt e' hu
    split at h
    · rename_i i hi
      cases h
      exact ⟨kt, hu, hi⟩
    · cases h
  · cases h
theorem run_ckey {kt : TypeId} {k : IntKind} (hk : P.underlying kt = some (.int k)) (em : Bool) (k' : IntKind) (n : Int) : (Instr.checkKey em 10000 kt (.int k' n)).run P w = .ok () w := by
  unfold Instr.checkKey
  simp only [Sem.run_bind, run_underlying hk, Result.andThen]
  rfl
theorem mapK_eq {h : Heap} {b : Nat} {es : Array MapEntry} {t : Nat} (hm : (h b).bind mapK = some (es, t)) : h b = some ⟨[.raw (.map es t)], 0⟩ := by
  cases hb : h b with
  | none => simp [hb] at hm
  | some x =>
    simp only [hb, Option.bind_some] at hm
    unfold mapK at hm
    split at hm
    · cases hm; rfl
    · cases hm
theorem mapAt_sound {h : Heap} (hh : HRep w h) {x : AV} {es : Array MapEntry} {t : Nat} (hm : mapAt h x = some (es, t)) {c : Value} (hr : Rep w O x c) :
    (c = .map none ∧ es = #[]) ∨ ∃ b, c = .map (some b) ∧ w.heap[b]? = some (.map es t) := by
  unfold mapAt at hm
  split at hm
  · cases hm
    exact .inl ⟨rep_mpp hr, rfl⟩
  · rename_i b
    exact .inr ⟨b, rep_mpp hr, (hh.obj (mapK_eq hm)).1⟩
  · cases hm
theorem lkp_sound {h : Heap} (hh : HRep w h) {t : TypeId} {k : IntKind} {e : TypeId} (ht : mapOf P t = some (k, e)) {z : Value} (hz : (P.info? e).bind (·.zero) = some z) {ok : Bool}
    {x : AV} {es : Array MapEntry} {tm : Nat} (hm : mapAt h x = some (es, tm)) {k' : IntKind} {n : Int} {r : Option (Nat × Value)} (hf : Instr.findNow (.int k) (.int k' n) es.toList 0 = some r)
    {c : Value} (hr : Rep w O x c) : ∃ v, (Instr.lookup t c (.int k' n) ok).run P w = .ok v w ∧ Rep w O (lkA (ofV1 z) ok r) v := by
  obtain ⟨kt, hu, hk⟩ := map_of ht
  have hz' : (zeroValue e).run P w = .ok z w := by
    cases hi : P.info? e with
    | none => simp [hi] at hz
    | some i =>
      simp only [hi, Option.bind_some] at hz
      simp [zeroValue, run_typeInfo w hi, hz, Result.andThen]
  have hfk : (Instr.findKey kt (.int k' n) es.toList).run P w = .ok r w := MapKept.run_findKey hk hf
  have hes : (Instr.lookup t c (.int k' n) ok).run P w = ((do
      let (v, ok') ← match r with
        | some (_, v) => pure (v, true)
        | none => pure (← zeroValue e, false)
      pure (if ok then Value.tuple #[v, .bool ok'] else v) : Sem Value)).run P w := by
    rcases mapAt_sound hh hm hr with ⟨rfl, rfl⟩ | ⟨b, rfl, hb⟩
    · simp only [Instr.lookup, Sem.run_bind, Sem.run_pure, run_underlying hu, Result.andThen, run_ckey hk, hfk]
      cases r <;> rfl
    · simp only [Instr.lookup, Sem.run_bind, Sem.run_pure, run_underlying hu, MapKept.run_getObj_map hb, Result.andThen, run_ckey hk, hfk]
      cases r <;> rfl
  rw [hes]
  have fin : ∀ v s, Rep w O s v → ∀ q, Rep w O (bif ok then .tup [s, .bool q] else s) (if ok then Value.tuple #[v, .bool q] else v) := by
    intro v s hv q
    cases ok
    · exact hv
    · refine .tup _ _ rfl (fun i a c ha hc => ?_)
      match i with
      | 0 => simp at ha hc; subst ha; subst hc; exact hv
      | 1 => simp at ha hc; subst ha; subst hc; exact .bool _
      | i + 2 => simp at ha
  cases r with
  | none => exact ⟨_, by simp only [Sem.run_bind, Sem.run_pure, hz', Result.andThen], fin z _ (rep_ofV1 z) false⟩
  | some p => exact ⟨_, by simp only [Sem.run_bind, Sem.run_pure, Result.andThen], fin p.2 _ (rep_ofV1 p.2) true⟩
theorem eqm_sound {t kt e : TypeId} (hu : P.underlying t = some (.map kt e)) (r : Option Nat) (neg : Bool) (x y : Operand) :
    (do eqGuard (if neg then .neq else .eql) t x y (.map r) (.map none); binOp (if neg then .neq else .eql) t (.map r) (.map none) : Sem Value).run P w = .ok (.bool (r.isNone != neg)) w := by
  have h : (Op.equal t (.map r) (.map none)).run P w = .ok r.isNone w := by
    unfold Op.equal Op.equalIn
    cases r <;> simp [run_underlying hu, Result.andThen, Op.maxDepth]
  cases neg
  · simp only [Bool.false_eq_true, if_false, Sem.run_bind]
    rw [show (eqGuard .eql t x y (.map r) (.map none)).run P w = .ok () w from rfl]
    simp [binOp, h, Result.andThen]
  · simp only [if_true, Sem.run_bind]
    rw [show (eqGuard .neq t x y (.map r) (.map none)).run P w = .ok () w from rfl]
    simp [binOp, h, Result.andThen]
theorem findNow_key {k k' : IntKind} {n : Int} : ∀ (l : List MapEntry) (i j : Nat) (v : Value), Instr.findNow (.int k) (.int k' n) l i = some (some (j, v)) → i ≤ j ∧ (l[j - i]?).map (·.key) = some (.int k' n)
  | [], i, j, v, h => by simp [Instr.findNow] at h
  | e :: l, i, j, v, h => by
    unfold Instr.findNow at h
    split at h
    · rename_i hs
      simp only [Option.some.injEq, Prod.mk.injEq] at h
      obtain ⟨rfl, _⟩ := h
      refine ⟨Nat.le_refl _, ?_⟩
      unfold Instr.sameNow at hs
      split at hs
      · rename_i e1 e2
        split at hs
        · rename_i hk
          subst hk
          simp only [Value.int.injEq] at e1
          obtain ⟨rfl, rfl⟩ := e1
          simp at hs
          subst hs
          simp [e2]
        · cases hs
      · rename_i e1 e2; cases e1
      · rename_i e1 e2; cases e1
      · cases hs
    · obtain ⟨h1, h2⟩ := findNow_key l (i + 1) j v h
      refine ⟨by omega, ?_⟩
      rw [show j - i = (j - (i + 1)) + 1 by omega]
      simpa using h2
    · cases h
theorem run_stays {k' : IntKind} {n : Int} {v : Value} (h : v = .int k' n) : (Instr.keyThatStays v (.int k' n)).run P w = .ok (.int k' n) w := by
  subst h
  simp [Instr.keyThatStays, Instr.sameBits]
theorem run_mup {t : TypeId} {k : IntKind} {e : TypeId} (ht : mapOf P t = some (k, e)) {b : Nat} {es : Array MapEntry} {tm : Nat} (hb : w.heap[b]? = some (.map es tm)) {k' : IntKind} {n : Int} {r : Option (Nat × Value)}
    (hf : Instr.findNow (.int k) (.int k' n) es.toList 0 = some r) (val : Value) :
    (Instr.mapUpdate t (.map (some b)) (.int k' n) val).run P w = .ok () { w with heap := w.heap.setIfInBounds b (match r with
      | some (j, _) => .map (es.modify j fun e => { e with key := .int k' n, val }) tm
      | none => .map (es.push { key := .int k' n, val, born := tm }) (tm + 1)) } := by
  obtain ⟨kt, hu, hk⟩ := map_of ht
  have hfk : (Instr.findKey kt (.int k' n) es.toList).run P w = .ok r w := MapKept.run_findKey hk hf
  cases r with
  | none => simp [Instr.mapUpdate, run_underlying hu, MapKept.run_getObj_map hb, run_ckey hk, hfk, MapKept.run_setObj_map _ hb, Result.andThen]
  | some p =>
    obtain ⟨j, v⟩ := p
    obtain ⟨_, h2⟩ := findNow_key _ _ _ _ hf
    have h3 : (((es[j]?).map (·.key)).getD (.int k' n)) = .int k' n := by
      simp only [Nat.sub_zero, Array.getElem?_toList] at h2
      rw [h2]; rfl
    simp [Instr.mapUpdate, run_underlying hu, MapKept.run_getObj_map hb, run_ckey hk, hfk, h3, run_stays rfl, MapKept.run_setObj_map _ hb, Result.andThen]
theorem run_dlt {t ty : TypeId} {k : IntKind} {e : TypeId} (ht : mapOf P t = some (k, e)) {b : Nat} {es : Array MapEntry} {tm : Nat} (hb : w.heap[b]? = some (.map es tm)) {k' : IntKind} {n : Int} {r : Option (Nat × Value)}
    (hf : Instr.findNow (.int k) (.int k' n) es.toList 0 = some r) (ts : List TypeId) :
    (Builtin.delete_ (t :: ts).toArray ty #[.map (some b), .int k' n]).run P w = .ok (.tuple #[]) { w with heap := w.heap.setIfInBounds b (match r with
      | some (j, _) => .map (es.eraseIdxIfInBounds j) tm
      | none => .map es tm) } := by
  obtain ⟨kt, hu, hk⟩ := map_of ht
  have hfk : (Instr.findKey kt (.int k' n) es.toList).run P w = .ok r w := MapKept.run_findKey hk hf
  cases r <;> simp [Builtin.delete_, run_underlying hu, MapKept.run_getObj_map hb, run_ckey hk, hfk, MapKept.run_setObj_map _ hb, Result.andThen]
theorem run_dlt0 {t ty : TypeId} {k : IntKind} {e : TypeId} (ht : mapOf P t = some (k, e)) (k' : IntKind) (n : Int) (ts : List TypeId) :
    (Builtin.delete_ (t :: ts).toArray ty #[.map none, .int k' n]).run P w = .ok (.tuple #[]) w := by
  obtain ⟨kt, hu, hk⟩ := map_of ht
  simp [Builtin.delete_, run_underlying hu, run_ckey hk, Result.andThen]
end
end Go.Ab
