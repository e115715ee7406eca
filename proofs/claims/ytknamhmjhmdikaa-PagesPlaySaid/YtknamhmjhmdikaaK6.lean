/- Sets by numbers: a number put into one. -/
import Derived.Test.YtknamhmjhmdikaaK5
set_option linter.unusedSimpArgs false
set_option linter.unusedVariables false
set_option maxRecDepth 10000
namespace Go.Ab
open Go.Proofs
variable {G : Glo} {h : Heap}
abbrev i64R (n : Int) : Prop := -9223372036854775808 ≤ n ∧ n < 9223372036854775808
@[push_cast] theorem fnd_nil (n : Int) : fnd .i64 .i64 n #[] = some none := rfl
@[push_cast] theorem isN0 : (none : Option Nat).isNone = true := rfl
@[push_cast] theorem isN1 (n : Nat) : (some n).isNone = false := rfl
theorem lessK {r : AV} {h g : Heap} (hs : Sub g h) : Le r h r g := by
  intro w v hw hr
  obtain ⟨l1, l2⟩ := hrep_less hw hs
  exact ⟨l1, hr.keep ⟨Nat.le_refl _, fun c _ hn => ⟨fun hd => hn fun e => hd (hs.none e), rfl⟩, fun _ h => h⟩, fun c hc => hs.none hc⟩
theorem keysA_spec (r : Option Nat) : Spec Try.prog G 29 [.mpp r] h (fun v h' => ∃ b, h b = none ∧ v = .fn 34 [] [.ptr b 0] ∧ h' = Ab.upd h b ⟨[.mpp r], 0⟩) := by
  refine Spec.walk C29ok rfl ?_
  simp only [push_cast, simprocAttr]
  exact fun b hb => ⟨b, hb, rfl, rfl⟩
theorem keysB_spec (r : Option Nat) : Spec Try.prog G 31 [.mpp r] h (fun v h' => ∃ b, h b = none ∧ v = .fn 35 [] [.ptr b 0] ∧ h' = Ab.upd h b ⟨[.mpp r], 0⟩) := by
  refine Spec.walk C31ok rfl ?_
  simp only [push_cast, simprocAttr]
  exact fun b hb => ⟨b, hb, rfl, rfl⟩
theorem srtQ_weak {f : Int → Prop} {P : Program} {F : FuncId} {args : List AV} (hs : Spec P G F args h (fun r h' => ∃ ss, r = zr ss ∧ Sub h h' ∧ ascL ss ∧ ∀ x, x ∈ ss ↔ f x)) : Spec P G F args h (SrtQ h f) :=
  hs.weak fun r h1 ⟨ss, e, hsub, h2, h3⟩ => ⟨r, h, ⟨ss, e, rfl, h2, h3⟩, lessK hsub⟩
theorem setSorted_spec {c : Nat} {f : Int → Prop} (hs : StAt h c f) (l : List Int) (hl : l.length ≤ 1000000) (hf : ∀ x, f x → x ∈ l) : Spec Try.prog G 26 [.mpp (some c)] h (SrtQ h f) := by
  obtain ⟨es, t, m, h1, h2, h3⟩ := hs
  have hml : m.length ≤ 1000000 := by
    have := nd_le h2.nd (fun x hx => hf x ((h3 x).1 hx))
    rw [List.length_map] at this
    omega
  refine srtQ_weak ?_
  refine Spec.walk C26ok rfl ?_
  simp only [push_cast, simprocAttr]
  refine (keysB_spec _).mono ?_
  rintro _ _ ⟨b, hb, rfl, rfl⟩
  simp only [push_cast, simprocAttr]
  have hcb : c ≠ b := by rintro rfl; rw [h1] at hb; cases hb
  refine (sorted_of KeysB (upd_same _ _ _) ((upd_ne hcb).trans h1) h2 hml).mono ?_
  rintro _ _ ⟨ss, rfl, rfl, h4, h5⟩
  simp only [push_cast, simprocAttr]
  exact ⟨ss, rfl, (Sub.refl h).alloc hb, h4, fun x => (h5 x).trans (h3 x)⟩
theorem setSorted_nil : Spec Try.prog G 26 [.mpp none] h (SrtQ h fun _ => False) := by
  refine srtQ_weak ?_
  refine Spec.walk C26ok rfl ?_
  simp only [push_cast, simprocAttr]
  refine (keysB_spec _).mono ?_
  rintro _ _ ⟨b, hb, rfl, rfl⟩
  simp only [push_cast, simprocAttr]
  refine (sorted_nil KeysB (upd_same _ _ _)).mono ?_
  rintro _ _ ⟨ss, rfl, rfl, h4, h5⟩
  simp only [push_cast, simprocAttr]
  exact ⟨ss, rfl, (Sub.refl h).alloc hb, h4, h5⟩
theorem MpI.fndAt {es : Array MapEntry} {t : Nat} {m : List (Int × Value)} (h : MpI es t m) {n : Int} {v : Value} (hv : (n, v) ∈ m) : ∃ j, Ab.fnd .i64 .i64 n es = some (some (j, v)) ∧ m[j]? = some (n, v) := by
  rcases h.fnd n with ⟨_, h2⟩ | ⟨j, u, h1, h2⟩
  · exact absurd rfl (h2 _ hv)
  · obtain ⟨i, hi, e⟩ := List.getElem_of_mem hv
    obtain ⟨hj, e2⟩ := List.getElem?_eq_some_iff.1 h2
    have hij : i = j := (List.getElem_inj (xs := m.map (·.1)) (h₀ := by simpa using hi) (h₁ := by simpa using hj) h.nd).1 (by simp [e, e2])
    subst hij
    rw [e] at e2
    cases e2
    exact ⟨i, h1, h2⟩
theorem put_spec {b : Nat} {o : List (Int × Nat)} {f : Int → Int → Prop} (ho : OutAt h b o f) {i n : Int} (hi : i64R i) (hn : i64R n) :
    Spec Try.prog G 23 [.mpp (some b), .int .i64 i, .int .i64 n] h (fun r h' => r = .tup [] ∧ OutTo h b o (fun k x => f k x ∨ (k = i ∧ x = n)) h') := by
  obtain ⟨es, t, hb, hm, hfd⟩ := ho.find i
  have hbn : b ∉ o.map (·.2) := (List.nodup_cons.1 ho.nd).1
  rcases hfd with ⟨hf1, hf2⟩ | ⟨j, c, hf1, hf2⟩
  · refine Spec.walk C23ok rfl ?_
    simp only [push_cast, simprocAttr, hb, hf1]
    intro c hc
    have hbc : b ≠ c := by rintro rfl; rw [hb] at hc; cases hc
    have hm' := hm.add (n := i) (fun p hp => by
      obtain ⟨q, hq, rfl⟩ := List.mem_map.1 hp
      exact hf2 q hq) hi (.map (some c))
    obtain ⟨j, hj1, _⟩ := hm'.fndAt (n := i) (v := .map (some c)) (by simp)
    have hb1 : Ab.upd h c (mpB #[] 0) b = some (mpB es t) := (upd_ne hbc).trans hb
    have hc2 : ∀ X, Ab.upd (Ab.upd h c (mpB #[] 0)) b X c = some (mpB #[] 0) := fun X => (upd_ne (Ne.symm hbc)).trans (upd_same _ _ _)
    simp only [push_cast, simprocAttr, hb1, hf1, hj1, hc2]
    have hcn : c ∉ outs b o := fun hm => ho.lt hm hc
    have hS : StAt (Ab.upd (Ab.upd (Ab.upd h c (mpB #[] 0)) b (mpB (es.push { key := .int .i64 i, val := .map (some c), born := t }) (t + 1))) c (mpB (#[].push { key := .int .i64 n, val := .int .i64 1, born := 0 }) (0 + 1))) c (fun x => x = n) :=
      ⟨_, _, _, upd_same _ _ _, MpI.nil.add (by simp) hn _, fun x => by simp⟩
    have hA := ho.add hf2 hcn (g := fun x => x = n) ⟨n, rfl⟩ hS ((upd_ne hbc).trans (upd_same _ _ _)) (by simpa using hm') (fun d h1 h2 => by rw [upd_ne h1, upd_ne h2, upd_ne h1])
    refine ⟨_, hA.imp fun k x => ?_, fun d hd hdn => ?_, fun p hp => ?_⟩
    · constructor
      · split
        · rename_i e; intro hx; exact .inr ⟨e, hx⟩
        · exact .inl
      · rintro (hx | ⟨rfl, rfl⟩)
        · rw [if_neg]
          · exact hx
          · rintro rfl
            obtain ⟨c', hc'⟩ := ho.has _ _ hx
            exact hf2 _ hc' rfl
        · rw [if_pos rfl]
    · have hdc : d ≠ c := by rintro rfl; exact hdn hc
      have hdb : d ≠ b := by rintro rfl; exact hd (by simp [outs])
      rw [upd_ne hdc, upd_ne hdb, upd_ne hdc]
    · rcases List.mem_append.1 hp with hp | hp
      · exact .inl (List.mem_map.2 ⟨p, hp, rfl⟩)
      · simp at hp; subst hp; exact .inr hc
  · have hmem : (i, c) ∈ o := List.mem_of_getElem? hf2
    have hcb : b ≠ c := by rintro rfl; exact hbn (List.mem_map.2 ⟨_, hmem, rfl⟩)
    have fin : ∀ (es' : Array MapEntry) (t' : Nat), StAt (Ab.upd h c (mpB es' t')) c (fun x => f i x ∨ x = n) → OutTo h b o (fun k x => f k x ∨ (k = i ∧ x = n)) (Ab.upd h c (mpB es' t')) := by
      intro es' t' hS
      refine ⟨o, (ho.set hmem (g := fun x => f i x ∨ x = n) ⟨n, .inr rfl⟩ hS (fun d hd => upd_ne hd)).imp fun k x => ?_, fun d hd _ => upd_ne ?_, fun p hp => .inl (List.mem_map.2 ⟨p, hp, rfl⟩)⟩
      · split
        · rename_i e; subst e; simp
        · rename_i e; simp [e]
      · rintro rfl
        exact hd (by simp only [outs, List.mem_cons, List.mem_map]; exact .inr ⟨_, hmem, rfl⟩)
    obtain ⟨es2, t2, m2, hc, hm2, hx2, hfd2⟩ := (ho.sets _ hmem).1.find n
    rcases hfd2 with ⟨g1, g2, g3⟩ | ⟨j2, v2, g1, g2, g3⟩
    · refine Spec.walk C23ok rfl ?_
      simp only [push_cast, simprocAttr, hb, hf1, hc, g1]
      refine fin _ _ ⟨_, _, _, upd_same _ _ _, hm2.add g3 hn _, fun x => ?_⟩
      rw [List.map_append, List.mem_append, hx2]
      simp
    · refine Spec.walk C23ok rfl ?_
      simp only [push_cast, simprocAttr, hb, hf1, hc, g1]
      refine fin _ _ ⟨_, _, _, upd_same _ _ _, hm2.put g2 _, fun x => ?_⟩
      have : (m2.set j2 (n, .int .i64 1)).map (·.1) = m2.map (·.1) := by
        rw [List.map_set]
        apply List.ext_getElem?
        intro q
        rw [List.getElem?_set]
        split
        · rename_i e; subst e; obtain ⟨hl, he⟩ := List.getElem?_eq_some_iff.1 g2; simp [hl, he]
        · rfl
      rw [this, hx2]
      constructor
      · exact .inl
      · rintro (hx | rfl)
        · exact hx
        · exact g3
end Go.Ab
