/- Maps whose keys are whole numbers, as lists. -/
import Derived.Test.YtknamhmjhmdikaaAb11
namespace Go.Ab
/-- A map's entries, in the order in which they came. -/
structure MpI (es : Array MapEntry) (t : Nat) (m : List (Int × Value)) : Prop where
  ent : es.toList.map (fun e => (e.key, e.val)) = m.map fun p => (Value.int .i64 p.1, p.2)
  rg : ∀ p ∈ m, -9223372036854775808 ≤ p.1 ∧ p.1 < 9223372036854775808
  st : MapKept.Stamped es t
theorem MpI.keys {es : Array MapEntry} {t : Nat} {m : List (Int × Value)} (h : MpI es t m) : es.toList.map (·.key) = m.map fun p => Value.int .i64 p.1 := by
  have := congrArg (List.map Prod.fst) h.ent
  simpa [List.map_map, Function.comp_def] using this
theorem MpI.size {es : Array MapEntry} {t : Nat} {m : List (Int × Value)} (h : MpI es t m) : es.size = m.length := by
  have := congrArg List.length h.ent
  simpa using this
theorem MpI.nd {es : Array MapEntry} {t : Nat} {m : List (Int × Value)} (h : MpI es t m) : (m.map (·.1)).Nodup := by
  have := h.st.2.2
  rw [h.keys] at this
  rw [show m.map (fun p => Value.int .i64 p.1) = (m.map (·.1)).map (Value.int .i64) by simp [List.map_map, Function.comp_def]] at this
  exact List.Pairwise.of_map _ (fun a b hab e => hab (by rw [e])) this
theorem MpI.nil : MpI #[] 0 [] := ⟨rfl, by simp, by simp, by simp, by simp⟩
theorem MpI.get {es : Array MapEntry} {t : Nat} {m : List (Int × Value)} (h : MpI es t m) (j : Nat) : (es[j]?).map (fun e => (e.key, e.val)) = (m[j]?).map fun p => (Value.int .i64 p.1, p.2) := by
  have := congrArg (fun l => l[j]?) h.ent
  simpa using this
theorem MpI.fnd {es : Array MapEntry} {t : Nat} {m : List (Int × Value)} (h : MpI es t m) (n : Int) :
    (fnd .i64 .i64 n es = some none ∧ ∀ p ∈ m, p.1 ≠ n) ∨ ∃ j v, fnd .i64 .i64 n es = some (some (j, v)) ∧ m[j]? = some (n, v) := by
  have hk : ∀ x ∈ es.toList, MapKept.IsKey (.int .i64) x.key := by
    intro x hx
    have : x.key ∈ es.toList.map (·.key) := List.mem_map.2 ⟨x, hx, rfl⟩
    rw [h.keys] at this
    obtain ⟨p, _, e⟩ := List.mem_map.1 this
    rw [← e]; rfl
  rcases MapKept.findNow_spec (d := .int .i64) (k := .int .i64 n) rfl es.toList 0 hk with ⟨h1, h2⟩ | ⟨j, e, h1, h2, h3⟩
  · refine .inl ⟨h1, fun p hp e => ?_⟩
    have : Value.int .i64 p.1 ∈ es.toList.map (·.key) := by rw [h.keys]; exact List.mem_map.2 ⟨p, hp, rfl⟩
    obtain ⟨x, hx, ex⟩ := List.mem_map.1 this
    exact h2 x hx (by rw [ex, e])
  · refine .inr ⟨j, e.val, by simpa [Ab.fnd] using h1, ?_⟩
    have hg := h.get j
    rw [show es[j]? = some e by simpa using h2] at hg
    cases hm : m[j]? with
    | none => simp [hm] at hg
    | some p =>
      simp only [hm, Option.map_some, Option.some.injEq, Prod.mk.injEq] at hg
      rw [h3] at hg
      simp only [Value.int.injEq, true_and] at hg
      rw [hg.1, hg.2]
theorem MpI.add {es : Array MapEntry} {t : Nat} {m : List (Int × Value)} (h : MpI es t m) {n : Int} (hn : ∀ p ∈ m, p.1 ≠ n) (hr : -9223372036854775808 ≤ n ∧ n < 9223372036854775808) (v : Value) :
    MpI (es.push { key := .int .i64 n, val := v, born := t }) (t + 1) (m ++ [(n, v)]) := by
  obtain ⟨s1, s2, s3⟩ := h.st
  refine ⟨by simp [h.ent], fun p hp => ?_, fun x hx => ?_, ?_, ?_⟩
  · rcases List.mem_append.1 hp with hp | hp
    · exact h.rg p hp
    · simp at hp; subst hp; exact hr
  · rcases (by simpa using hx : x ∈ es ∨ x = _) with hx | rfl
    · have := s1 x (by simpa using hx); omega
    · exact Nat.lt_succ_self _
  · simp only [Array.toList_push, List.map_append, List.map_cons, List.map_nil]
    refine List.nodup_append.2 ⟨s2, by simp, fun a ha b hb e => ?_⟩
    obtain ⟨x, hx, rfl⟩ := List.mem_map.1 ha
    simp at hb
    have := s1 x hx
    omega
  · simp only [Array.toList_push, List.map_append, List.map_cons, List.map_nil]
    refine List.nodup_append.2 ⟨s3, by simp, fun a ha b hb e => ?_⟩
    rw [h.keys] at ha
    obtain ⟨p, hp, rfl⟩ := List.mem_map.1 ha
    simp at hb
    subst hb
    simp only [Value.int.injEq, true_and] at e
    exact hn p hp e
theorem map_modify {α β : Type} (f : α → β) (g : α → α) (l : List α) (j : Nat) (b : β) (h : ∀ a, l[j]? = some a → f (g a) = b) : (l.modify j g).map f = (l.map f).set j b := by
  apply List.ext_getElem?
  intro i
  simp only [List.getElem?_map, List.getElem?_modify, List.getElem?_set, List.length_map]
  by_cases e : j = i
  · subst e
    by_cases hl : j < l.length
    · simp [hl, h _ (List.getElem?_eq_getElem hl)]
    · simp [hl]
  · simp [e]
theorem MpI.put {es : Array MapEntry} {t : Nat} {m : List (Int × Value)} (h : MpI es t m) {j : Nat} {n : Int} {u : Value} (hj : m[j]? = some (n, u)) (v : Value) :
    MpI (es.modify j fun e => { e with key := .int .i64 n, val := v }) t (m.set j (n, v)) := by
  obtain ⟨s1, s2, s3⟩ := h.st
  have hg := h.get j
  rw [hj] at hg
  have hb : (es.toList.modify j fun e => { e with key := .int .i64 n, val := v }).map (·.born) = es.toList.map (·.born) := by
    apply List.ext_getElem?
    intro i
    simp only [List.getElem?_map, List.getElem?_modify]
    cases es.toList[i]? with
    | none => simp
    | some a => by_cases e : j = i <;> simp [e]
  have hk : (es.toList.modify j fun e => { e with key := .int .i64 n, val := v }).map (·.key) = es.toList.map (·.key) := by
    apply List.ext_getElem?
    intro i
    simp only [List.getElem?_map, List.getElem?_modify]
    by_cases e : j = i
    · subst e
      cases hx : es.toList[j]? with
      | none => simp
      | some a =>
        rw [show es[j]? = some a by simpa using hx] at hg
        simp only [Option.map_some, Option.some.injEq, Prod.mk.injEq] at hg
        simp [hg.1]
    · simp [e]
  refine ⟨?_, fun p hp => ?_, fun x hx => ?_, by rw [Array.toList_modify, hb]; exact s2, by rw [Array.toList_modify, hk]; exact s3⟩
  · rw [Array.toList_modify, map_modify (fun e : MapEntry => (e.key, e.val)) _ _ _ (Value.int .i64 n, v) (fun _ _ => rfl), h.ent, List.map_set]
  · rcases List.mem_or_eq_of_mem_set hp with hp | rfl
    · exact h.rg p hp
    · exact h.rg (n, u) (List.mem_of_getElem? hj)
  · have : x.born ∈ es.toList.map (·.born) := by
      rw [← hb]; exact List.mem_map.2 ⟨x, by simpa [Array.toList_modify] using hx, rfl⟩
    obtain ⟨y, hy, e⟩ := List.mem_map.1 this
    rw [← e]; exact s1 y hy
theorem MpI.del {es : Array MapEntry} {t : Nat} {m : List (Int × Value)} (h : MpI es t m) (j : Nat) : MpI (es.eraseIdxIfInBounds j) t (m.eraseIdx j) := by
  obtain ⟨s1, s2, s3⟩ := h.st
  have he : (es.eraseIdxIfInBounds j).toList = es.toList.eraseIdx j := by simp
  have hs : (es.toList.eraseIdx j).Sublist es.toList := List.eraseIdx_sublist _ _
  refine ⟨?_, fun p hp => h.rg p ((List.eraseIdx_sublist _ _).mem hp), fun x hx => s1 x ?_, ?_, ?_⟩
  · rw [he, List.eraseIdx_eq_take_drop_succ, List.eraseIdx_eq_take_drop_succ, List.map_append, List.map_take, List.map_drop, h.ent, List.map_append, List.map_take, List.map_drop]
  · rw [he] at hx; exact hs.mem hx
  · rw [he]; exact (hs.map _).nodup s2
  · rw [he]; exact (hs.map _).nodup s3
end Go.Ab
