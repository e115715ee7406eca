/- Sets by numbers: a number taken out of one. -/
import Derived.Test.YtknamhmjhmdikaaK6
set_option linter.unusedSimpArgs false
set_option linter.unusedVariables false
set_option maxRecDepth 10000
namespace Go.Ab
open Go.Proofs
variable {G : Glo} {h : Heap}
theorem MpI.delKeys {es : Array MapEntry} {t : Nat} {m : List (Int × Value)} (h : MpI es t m) {j : Nat} {n : Int} {v : Value} (hj : m[j]? = some (n, v)) (x : Int) : x ∈ (m.eraseIdx j).map (·.1) ↔ x ∈ m.map (·.1) ∧ x ≠ n := by
  obtain ⟨hl, he⟩ := List.getElem?_eq_some_iff.1 hj
  simp only [List.mem_map, List.mem_eraseIdx_iff_getElem]
  constructor
  · rintro ⟨p, ⟨i, hi, hij, e⟩, rfl⟩
    refine ⟨⟨p, by rw [← e]; exact List.getElem_mem _, rfl⟩, fun e1 => hij ?_⟩
    exact (List.getElem_inj (xs := m.map (·.1)) (h₀ := by simpa using hi) (h₁ := by simpa using hl) h.nd).1 (by simp [e, he, e1])
  · rintro ⟨⟨p, hp, rfl⟩, hne⟩
    obtain ⟨i, hi, e⟩ := List.getElem_of_mem hp
    refine ⟨p, ⟨i, hi, fun hij => ?_, e⟩, rfl⟩
    subst hij
    rw [he] at e
    exact hne (by rw [← e])
theorem upd_id {b : Nat} {x : Blk} (hb : h b = some x) : Ab.upd h b x = h := by
  funext c
  unfold Ab.upd
  split
  · rename_i e; rw [e, hb]
  · rfl
@[push_cast] theorem size0 : ((#[] : Array MapEntry).size : Int) = 0 := rfl
theorem OutTo.of {b : Nat} {o : List (Int × Nat)} {f : Int → Int → Prop} (ho : OutAt h b o f) : OutTo h b o f h := ⟨o, ho, fun _ _ _ => rfl, fun p hp => .inl (List.mem_map.2 ⟨p, hp, rfl⟩)⟩
theorem take_spec {b : Nat} {o : List (Int × Nat)} {f : Int → Int → Prop} (ho : OutAt h b o f) (i n : Int) :
    Spec Try.prog G 25 [.mpp (some b), .int .i64 i, .int .i64 n] h (fun r h' => r = .tup [] ∧ OutTo h b o (fun k x => f k x ∧ ¬ (k = i ∧ x = n)) h') := by
  obtain ⟨es, t, hb, hm, hfd⟩ := ho.find i
  have hbn : b ∉ o.map (·.2) := (List.nodup_cons.1 ho.nd).1
  rcases hfd with ⟨hf1, hf2⟩ | ⟨j, c, hf1, hf2⟩
  · have hz : ((0 : Int) == 0) = true := rfl
    refine Spec.walk C25ok rfl ?_
    simp only [push_cast, simprocAttr, hb, hf1, hz]
    rw [upd_id hb]
    refine OutTo.of (ho.imp fun k x => ?_)
    constructor
    · intro hx
      refine ⟨hx, fun e => ?_⟩
      obtain ⟨c', hc'⟩ := ho.has _ _ hx
      exact hf2 _ hc' e.1
    · exact fun hx => hx.1
  · have hmem : (i, c) ∈ o := List.mem_of_getElem? hf2
    have hbc : b ≠ c := by rintro rfl; exact hbn (List.mem_map.2 ⟨_, hmem, rfl⟩)
    have hb2 : ∀ X, Ab.upd h c X b = some (mpB es t) := fun X => (upd_ne hbc).trans hb
    obtain ⟨⟨es2, t2, m2, hc, hm2, hx2⟩, x0, hx0⟩ := ho.sets _ hmem
    have hS : StAt h c (f i) := ⟨es2, t2, m2, hc, hm2, hx2⟩
    have hsz := hm2.size
    rcases hm2.fnd n with ⟨g1, g2⟩ | ⟨j2, v2, g1, g2⟩
    · have hpos : 0 < m2.length := by
        have := (hx2 x0).2 hx0
        obtain ⟨p, hp, _⟩ := List.mem_map.1 this
        exact List.length_pos_of_mem hp
      have hz : ((es2.size : Int) == 0) = false := by rw [beq_eq_false_iff_ne]; omega
      have hc2 := upd_id hc
      refine Spec.walk C25ok rfl ?_
      simp only [push_cast, simprocAttr, hb, hf1, hc, g1, hc2, hz]
      refine OutTo.of (ho.imp fun k x => ?_)
      constructor
      · intro hx
        refine ⟨hx, ?_⟩
        rintro ⟨rfl, rfl⟩
        obtain ⟨p, hp, e⟩ := List.mem_map.1 ((hx2 x).2 hx)
        exact g2 p hp e
      · exact fun hx => hx.1
    · obtain ⟨hl, he⟩ := List.getElem?_eq_some_iff.1 g2
      have hd := hm2.del j2
      have hdk := hm2.delKeys g2
      have hds := hd.size
      rw [List.length_eraseIdx, if_pos hl] at hds
      have hcu : ∀ X, Ab.upd h c X c = some X := fun X => upd_same _ _ _
      have hS2 : StAt (Ab.upd h c (mpB (es2.eraseIdxIfInBounds j2) t2)) c (fun x => f i x ∧ x ≠ n) := ⟨_, _, _, upd_same _ _ _, hd, fun x => by rw [hdk, hx2]⟩
      by_cases h1 : m2.length = 1
      · have hz : (((es2.eraseIdxIfInBounds j2).size : Int) == 0) = true := by rw [beq_iff_eq]; omega
        refine Spec.walk C25ok rfl ?_
        simp only [push_cast, simprocAttr, hb, hf1, hc, g1, hb2, hz]
        have hem : ∀ x, ¬ (f i x ∧ x ≠ n) := by
          intro x hx
          have := (hdk x).2 ⟨(hx2 x).2 hx.1, hx.2⟩
          have hlen : (m2.eraseIdx j2).length = 0 := by rw [List.length_eraseIdx, if_pos hl]; omega
          rw [List.eq_nil_of_length_eq_zero hlen] at this
          simp at this
        have hmd := hm.del j
        rw [show (o.map fun p => (p.1, Value.map (some p.2))).eraseIdx j = (o.eraseIdx j).map fun p => (p.1, Value.map (some p.2)) by
          rw [List.eraseIdx_eq_take_drop_succ, List.eraseIdx_eq_take_drop_succ, List.map_append, List.map_take, List.map_drop]] at hmd
        refine ⟨_, (ho.del hf2 (upd_same _ _ _) hmd (fun d h1 h2 => by rw [upd_ne h2, upd_ne h1])).imp fun k x => ?_, fun d hd hdn => ?_, fun p hp => .inl (List.mem_map.2 ⟨p, (List.eraseIdx_sublist _ _).mem hp, rfl⟩)⟩
        · constructor
          · rintro ⟨h3, h4⟩
            exact ⟨h4, fun e => h3 e.1⟩
          · rintro ⟨h3, h4⟩
            refine ⟨?_, h3⟩
            rintro rfl
            exact hem x ⟨h3, fun e => h4 ⟨rfl, e⟩⟩
        · have hdb : d ≠ b := by rintro rfl; exact hd (by simp [outs])
          have hdc : d ≠ c := by rintro rfl; exact hd (by simp only [outs, List.mem_cons, List.mem_map]; exact .inr ⟨_, hmem, rfl⟩)
          rw [upd_ne hdb, upd_ne hdc]
      · have hz : (((es2.eraseIdxIfInBounds j2).size : Int) == 0) = false := by rw [beq_eq_false_iff_ne]; omega
        refine Spec.walk C25ok rfl ?_
        simp only [push_cast, simprocAttr, hb, hf1, hc, g1, hb2, hz]
        have hex : ∃ x, f i x ∧ x ≠ n := by
          have hlen : (m2.eraseIdx j2).length ≠ 0 := by rw [List.length_eraseIdx, if_pos hl]; omega
          obtain ⟨p, hp⟩ := List.exists_mem_of_length_pos (Nat.pos_of_ne_zero hlen)
          have := (hdk p.1).1 (List.mem_map.2 ⟨p, hp, rfl⟩)
          exact ⟨p.1, (hx2 _).1 this.1, this.2⟩
        refine ⟨o, (ho.set hmem hex hS2 (fun d hd => upd_ne hd)).imp fun k x => ?_, fun d hd _ => upd_ne ?_, fun p hp => .inl (List.mem_map.2 ⟨p, hp, rfl⟩)⟩
        · split
          · rename_i e; subst e; simp
          · rename_i e; simp [e]
        · rintro rfl
          exact hd (by simp only [outs, List.mem_cons, List.mem_map]; exact .inr ⟨_, hmem, rfl⟩)
end Go.Ab
