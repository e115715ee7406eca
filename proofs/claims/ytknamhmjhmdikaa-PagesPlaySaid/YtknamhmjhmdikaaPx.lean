/- Sets of numbers, and numbers by numbers, in a heap. -/
import Derived.Test.YtknamhmjhmdikaaMp
import Derived.Test.YtknamhmjhmdikaaPw
namespace Go.Ab
theorem nd_le : ∀ {a b : List Int}, a.Nodup → (∀ x ∈ a, x ∈ b) → a.length ≤ b.length
  | [], _, _, _ => Nat.zero_le _
  | x :: a, b, hn, hs => by
    obtain ⟨h1, h2⟩ := List.nodup_cons.1 hn
    have hx : x ∈ b := hs x (by simp)
    have := nd_le (a := a) (b := b.erase x) h2 (fun y hy => (List.mem_erase_of_ne (by rintro rfl; exact h1 hy)).2 (hs y (by simp [hy])))
    rw [List.length_erase_of_mem hx] at this
    have hb : 0 < b.length := List.length_pos_of_mem hx
    simp only [List.length_cons]
    omega
theorem nd_eq {a b : List Int} (ha : a.Nodup) (hb : b.Nodup) (h : ∀ x, x ∈ a ↔ x ∈ b) : a.length = b.length :=
  Nat.le_antisymm (nd_le ha fun x hx => (h x).1 hx) (nd_le hb fun x hx => (h x).2 hx)
theorem asc_nd {l : List Int} (h : ascL l) : l.Nodup := List.Pairwise.imp (fun h e => by omega) h
/-- A map's block. -/
abbrev mpB (es : Array MapEntry) (t : Nat) : Blk := ⟨[.raw (.map es t)], 0⟩
/-- A set, in a heap. -/
def StAt (h : Heap) (c : Nat) (f : Int → Prop) : Prop := ∃ es t m, h c = some (mpB es t) ∧ MpI es t m ∧ ∀ x, x ∈ m.map (·.1) ↔ f x
/-- Sets by numbers, in a heap: which numbers have one, and where. -/
structure OutAt (h : Heap) (b : Nat) (o : List (Int × Nat)) (f : Int → Int → Prop) : Prop where
  blk : ∃ es t, h b = some (mpB es t) ∧ MpI es t (o.map fun p => (p.1, Value.map (some p.2)))
  sets : ∀ p ∈ o, StAt h p.2 (f p.1) ∧ ∃ x, f p.1 x
  has : ∀ k x, f k x → ∃ c, (k, c) ∈ o
  nd : (b :: o.map (·.2)).Nodup
def outs (b : Nat) (o : List (Int × Nat)) : List Nat := b :: o.map (·.2)
theorem StAt.keep {h h' : Heap} {c : Nat} {f : Int → Prop} (hs : StAt h c f) (e : h' c = h c) : StAt h' c f := by
  obtain ⟨es, t, m, h1, h2, h3⟩ := hs
  exact ⟨es, t, m, e.trans h1, h2, h3⟩
theorem StAt.imp {h : Heap} {c : Nat} {f g : Int → Prop} (hs : StAt h c f) (e : ∀ x, f x ↔ g x) : StAt h c g := by
  obtain ⟨es, t, m, h1, h2, h3⟩ := hs
  exact ⟨es, t, m, h1, h2, fun x => (h3 x).trans (e x)⟩
theorem OutAt.keep {h h' : Heap} {b : Nat} {o : List (Int × Nat)} {f : Int → Int → Prop} (ho : OutAt h b o f) (e : ∀ c ∈ outs b o, h' c = h c) : OutAt h' b o f := by
  obtain ⟨⟨es, t, h1, h2⟩, h3, h4, h5⟩ := ho
  exact ⟨⟨es, t, (e b (by simp [outs])).trans h1, h2⟩, fun p hp => ⟨(h3 p hp).1.keep (e p.2 (by simp only [outs, List.mem_cons, List.mem_map]; exact .inr ⟨p, hp, rfl⟩)), (h3 p hp).2⟩, h4, h5⟩
theorem OutAt.imp {h : Heap} {b : Nat} {o : List (Int × Nat)} {f g : Int → Int → Prop} (ho : OutAt h b o f) (e : ∀ k x, f k x ↔ g k x) : OutAt h b o g := by
  obtain ⟨h1, h3, h4, h5⟩ := ho
  exact ⟨h1, fun p hp => ⟨(h3 p hp).1.imp (e p.1), by obtain ⟨x, hx⟩ := (h3 p hp).2; exact ⟨x, (e _ _).1 hx⟩⟩, fun k x hx => h4 k x ((e k x).2 hx), h5⟩
theorem OutAt.lt {h : Heap} {b : Nat} {o : List (Int × Nat)} {f : Int → Int → Prop} (ho : OutAt h b o f) {c : Nat} (hc : c ∈ outs b o) : h c ≠ none := by
  obtain ⟨⟨es, t, h1, h2⟩, h3, h4, h5⟩ := ho
  simp only [outs, List.mem_cons, List.mem_map] at hc
  rcases hc with rfl | ⟨p, hp, rfl⟩
  · rw [h1]; simp
  · obtain ⟨⟨es, t, m, h1, _⟩, _⟩ := h3 p hp
    rw [h1]; simp
/-- What a turn of such sets leaves: the sets behind it; all else as it was. -/
def OutTo (h : Heap) (b : Nat) (o : List (Int × Nat)) (f : Int → Int → Prop) (h' : Heap) : Prop :=
  ∃ o', OutAt h' b o' f ∧ (∀ c, c ∉ outs b o → h c ≠ none → h' c = h c) ∧ ∀ p ∈ o', p.2 ∈ o.map (·.2) ∨ h p.2 = none
/-- Pairs of a block and a page, by blocks and by pages, in a heap. -/
def IxAt (h : Heap) (bp bb : Nat) (W : List (Int × Int)) : Prop :=
  ∃ op ob, OutAt h bp op (fun i p => (i, p) ∈ W) ∧ OutAt h bb ob (fun p i => (i, p) ∈ W) ∧ ∀ c ∈ outs bp op, c ∉ outs bb ob
theorem out_new {h : Heap} {b : Nat} {es : Array MapEntry} {t : Nat} (hb : h b = some (mpB es t)) (hm : MpI es t []) : OutAt h b [] fun _ _ => False :=
  ⟨⟨es, t, hb, hm⟩, by simp, by simp, by simp⟩
/-- A set that is there, put to another one. -/
theorem OutAt.set {h h' : Heap} {b : Nat} {o : List (Int × Nat)} {f : Int → Int → Prop} (ho : OutAt h b o f) {k : Int} {c : Nat} (hk : (k, c) ∈ o) {g : Int → Prop} (hg : ∃ x, g x)
    (hc : StAt h' c g) (he : ∀ d, d ≠ c → h' d = h d) : OutAt h' b o (fun i x => if i = k then g x else f i x) := by
  obtain ⟨⟨es, t, h1, h2⟩, h3, h4, h5⟩ := ho
  obtain ⟨n1, n2⟩ := List.nodup_cons.1 h5
  have hcb : b ≠ c := by rintro rfl; exact n1 (List.mem_map.2 ⟨(k, b), hk, rfl⟩)
  have hkk : ∀ p ∈ o, p.1 = k ↔ p.2 = c := by
    intro p hp
    have hnd := h2.nd
    rw [List.map_map] at hnd
    obtain ⟨i, hi, e⟩ := List.getElem_of_mem hp
    obtain ⟨j, hj, e'⟩ := List.getElem_of_mem hk
    constructor
    · intro e1
      have : i = j := (List.getElem_inj (xs := o.map ((fun x : Int × Value => x.1) ∘ fun p : Int × Nat => (p.1, Value.map (some p.2)))) (h₀ := by simpa using hi) (h₁ := by simpa using hj) hnd).1 (by simp [e, e', e1])
      subst this
      rw [e] at e'; rw [e']
    · intro e1
      have : i = j := (List.getElem_inj (xs := o.map (·.2)) (h₀ := by simpa using hi) (h₁ := by simpa using hj) n2).1 (by simp [e, e', e1])
      subst this
      rw [e] at e'; rw [e']
  refine ⟨⟨es, t, (he b hcb).trans h1, h2⟩, fun p hp => ?_, fun i x hx => ?_, h5⟩
  · by_cases e : p.1 = k
    · have := (hkk p hp).1 e
      rw [this]
      simp only [e, if_true]
      exact ⟨hc, hg⟩
    · have hpc : p.2 ≠ c := fun e' => e ((hkk p hp).2 e')
      simp only [e, if_false]
      exact ⟨(h3 p hp).1.keep (he _ hpc), (h3 p hp).2⟩
  · split at hx
    · rename_i e; subst e; exact ⟨c, hk⟩
    · exact h4 i x hx
/-- A set that is new. -/
theorem OutAt.add {h h' : Heap} {b : Nat} {o : List (Int × Nat)} {f : Int → Int → Prop} (ho : OutAt h b o f) {k : Int} {c : Nat} (hk : ∀ p ∈ o, p.1 ≠ k) (hcn : c ∉ outs b o) {g : Int → Prop} (hg : ∃ x, g x)
    (hc : StAt h' c g) {es : Array MapEntry} {t : Nat} (hb : h' b = some (mpB es t)) (hm : MpI es t ((o ++ [(k, c)]).map fun p => (p.1, Value.map (some p.2)))) (he : ∀ d, d ≠ c → d ≠ b → h' d = h d) :
    OutAt h' b (o ++ [(k, c)]) (fun i x => if i = k then g x else f i x) := by
  obtain ⟨_, h3, h4, h5⟩ := ho
  obtain ⟨n1, n2⟩ := List.nodup_cons.1 h5
  simp only [outs, List.mem_cons, not_or] at hcn
  refine ⟨⟨es, t, hb, hm⟩, fun p hp => ?_, fun i x hx => ?_, ?_⟩
  · rcases List.mem_append.1 hp with hp | hp
    · have hpk := hk p hp
      have hmem : p.2 ∈ o.map (·.2) := List.mem_map.2 ⟨p, hp, rfl⟩
      simp only [hpk, if_false]
      exact ⟨(h3 p hp).1.keep (he _ (by rintro e; rw [e] at hmem; exact hcn.2 hmem) (by rintro e; rw [e] at hmem; exact n1 hmem)), (h3 p hp).2⟩
    · simp at hp
      subst hp
      simp only [if_true]
      exact ⟨hc, hg⟩
  · split at hx
    · rename_i e; subst e; exact ⟨c, by simp⟩
    · obtain ⟨d, hd⟩ := h4 i x hx
      exact ⟨d, by simp [hd]⟩
  · rw [List.map_append, ← List.cons_append]
    refine List.nodup_append.2 ⟨h5, by simp, fun a ha d hd e => ?_⟩
    simp at hd
    subst hd
    subst e
    rcases List.mem_cons.1 ha with e | e
    · exact hcn.1 e
    · exact hcn.2 e
/-- A set that is taken out. -/
theorem OutAt.del {h h' : Heap} {b : Nat} {o : List (Int × Nat)} {f : Int → Int → Prop} (ho : OutAt h b o f) {k : Int} {c j : Nat} (hj : o[j]? = some (k, c))
    {es : Array MapEntry} {t : Nat} (hb : h' b = some (mpB es t)) (hm : MpI es t ((o.eraseIdx j).map fun p => (p.1, Value.map (some p.2)))) (he : ∀ d, d ≠ c → d ≠ b → h' d = h d) :
    OutAt h' b (o.eraseIdx j) (fun i x => i ≠ k ∧ f i x) := by
  obtain ⟨⟨_, _, _, h2⟩, h3, h4, h5⟩ := ho
  obtain ⟨n1, n2⟩ := List.nodup_cons.1 h5
  have hj' : j < o.length := (List.getElem?_eq_some_iff.1 hj).1
  have hke := (List.getElem?_eq_some_iff.1 hj).2
  have hsub : (o.eraseIdx j).Sublist o := List.eraseIdx_sublist _ _
  have hnd := h2.nd
  rw [List.map_map] at hnd
  have key : ∀ p ∈ o.eraseIdx j, p ∈ o ∧ p.1 ≠ k ∧ p.2 ≠ c := by
    intro p hp
    rw [List.mem_eraseIdx_iff_getElem] at hp
    obtain ⟨i, hi, hij, e⟩ := hp
    refine ⟨by rw [← e]; exact List.getElem_mem _, fun e1 => hij ?_, fun e1 => hij ?_⟩
    · exact (List.getElem_inj (xs := o.map ((fun x : Int × Value => x.1) ∘ fun p : Int × Nat => (p.1, Value.map (some p.2)))) (h₀ := by simpa using hi) (h₁ := by simpa using hj') hnd).1 (by simp [e, hke, e1])
    · exact (List.getElem_inj (xs := o.map (·.2)) (h₀ := by simpa using hi) (h₁ := by simpa using hj') n2).1 (by simp [e, hke, e1])
  refine ⟨⟨es, t, hb, hm⟩, fun p hp => ?_, fun i x hx => ?_, ?_⟩
  · obtain ⟨h6, h7, h8⟩ := key p hp
    have hpb : p.2 ≠ b := by rintro e; exact n1 (e ▸ List.mem_map.2 ⟨p, h6, rfl⟩)
    refine ⟨((h3 p h6).1.keep (he _ h8 hpb)).imp fun x => by simp [h7], ?_⟩
    obtain ⟨x, hx⟩ := (h3 p h6).2
    exact ⟨x, h7, hx⟩
  · obtain ⟨d, hd⟩ := h4 i x hx.2
    refine ⟨d, List.mem_eraseIdx_iff_getElem.2 ?_⟩
    obtain ⟨q, hq, e⟩ := List.getElem_of_mem hd
    refine ⟨q, hq, ?_, e⟩
    rintro rfl
    rw [hke] at e
    exact hx.1 (by cases e; rfl)
  · exact List.Nodup.sublist (List.Sublist.cons_cons _ (hsub.map _)) h5
theorem OutAt.find {h : Heap} {b : Nat} {o : List (Int × Nat)} {f : Int → Int → Prop} (ho : OutAt h b o f) (n : Int) :
    ∃ es t, h b = some (mpB es t) ∧ MpI es t (o.map fun p => (p.1, Value.map (some p.2))) ∧
      ((fnd .i64 .i64 n es = some none ∧ ∀ p ∈ o, p.1 ≠ n) ∨ ∃ j c, fnd .i64 .i64 n es = some (some (j, .map (some c))) ∧ o[j]? = some (n, c)) := by
  obtain ⟨es, t, h1, h2⟩ := ho.blk
  refine ⟨es, t, h1, h2, ?_⟩
  rcases h2.fnd n with ⟨e, h3⟩ | ⟨j, v, e, h3⟩
  · exact .inl ⟨e, fun p hp => h3 (p.1, Value.map (some p.2)) (List.mem_map.2 ⟨p, hp, rfl⟩)⟩
  · rw [List.getElem?_map] at h3
    obtain ⟨p, hp, e'⟩ := Option.map_eq_some_iff.1 h3
    cases e'
    exact .inr ⟨j, p.2, e, hp⟩
theorem StAt.find {h : Heap} {c : Nat} {f : Int → Prop} (hs : StAt h c f) (n : Int) :
    ∃ es t m, h c = some (mpB es t) ∧ MpI es t m ∧ (∀ x, x ∈ m.map (·.1) ↔ f x) ∧
      ((fnd .i64 .i64 n es = some none ∧ ¬ f n ∧ ∀ p ∈ m, p.1 ≠ n) ∨ ∃ j v, fnd .i64 .i64 n es = some (some (j, v)) ∧ m[j]? = some (n, v) ∧ f n) := by
  obtain ⟨es, t, m, h1, h2, h3⟩ := hs
  refine ⟨es, t, m, h1, h2, h3, ?_⟩
  rcases h2.fnd n with ⟨e, h4⟩ | ⟨j, v, e, h4⟩
  · refine .inl ⟨e, fun hf => ?_, h4⟩
    obtain ⟨p, hp, e'⟩ := List.mem_map.1 ((h3 n).2 hf)
    exact h4 p hp e'
  · exact .inr ⟨j, v, e, h4, (h3 n).1 (List.mem_map.2 ⟨_, List.mem_of_getElem? h4, rfl⟩)⟩
end Go.Ab
