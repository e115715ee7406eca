/- The index: added, looked up, dropped. -/
import Derived.Test.YtknamhmjhmdikaaK7
set_option linter.unusedSimpArgs false
set_option linter.unusedVariables false
set_option maxRecDepth 10000
namespace Go.Ab
open Go.Proofs
variable {G : Glo} {h : Heap}
/-- An index, in a heap: by blocks, and by pages. -/
def IdxAt2 (h : Heap) (px : Nat) (F K : Int → Int → Prop) : Prop :=
  ∃ bp bb op ob, h px = some ⟨[.mpp (some bp), .mpp (some bb)], 0⟩ ∧ OutAt h bp op F ∧ OutAt h bb ob K ∧ ∀ c ∈ outs bp op, c ∉ outs bb ob
def IdxAt (h : Heap) (px : Nat) (W : List (Int × Int)) : Prop := IdxAt2 h px (fun i p => (i, p) ∈ W) (fun p i => (i, p) ∈ W)
theorem IdxAt2.imp {px : Nat} {F K F' K' : Int → Int → Prop} (hx : IdxAt2 h px F K) (e1 : ∀ k x, F k x ↔ F' k x) (e2 : ∀ k x, K k x ↔ K' k x) : IdxAt2 h px F' K' := by
  obtain ⟨bp, bb, op, ob, h1, h2, h3, h4⟩ := hx
  exact ⟨bp, bb, op, ob, h1, h2.imp e1, h3.imp e2, h4⟩
theorem OutAt.raw {b : Nat} {o : List (Int × Nat)} {f : Int → Int → Prop} (ho : OutAt h b o f) {c : Nat} (hc : c ∈ outs b o) : ∃ es t, h c = some (mpB es t) := by
  obtain ⟨⟨es, t, h1, h2⟩, h3, h4, h5⟩ := ho
  simp only [outs, List.mem_cons, List.mem_map] at hc
  rcases hc with rfl | ⟨p, hp, rfl⟩
  · exact ⟨es, t, h1⟩
  · obtain ⟨⟨es, t, m, h1, _⟩, _⟩ := h3 p hp
    exact ⟨es, t, h1⟩
theorem outs_mem {b : Nat} {o : List (Int × Nat)} {c : Nat} (hc : c ∈ outs b o) : c = b ∨ ∃ p ∈ o, p.2 = c := by
  simpa only [outs, List.mem_cons, List.mem_map] using hc
theorem outs_of {b : Nat} {o : List (Int × Nat)} {c : Nat} (hc : c = b ∨ ∃ p ∈ o, p.2 = c) : c ∈ outs b o := by
  simpa only [outs, List.mem_cons, List.mem_map] using hc
/-- The blocks of what a turn leaves: those that were, or new ones. -/
theorem OutTo.mem {b : Nat} {o o' : List (Int × Nat)} (hn : ∀ p ∈ o', p.2 ∈ o.map (·.2) ∨ h p.2 = none) {c : Nat} (hc : c ∈ outs b o') : c ∈ outs b o ∨ h c = none := by
  rcases outs_mem hc with rfl | ⟨p, hp, rfl⟩
  · exact .inl (outs_of (.inl rfl))
  · rcases hn p hp with h1 | h1
    · obtain ⟨q, hq, e⟩ := List.mem_map.1 h1
      exact .inl (outs_of (.inr ⟨q, hq, e⟩))
    · exact .inr h1
theorem IdxAt2.turn {px : Nat} {F K : Int → Int → Prop} (hx : IdxAt2 h px F K) : ∃ bp bb op ob, h px = some ⟨[.mpp (some bp), .mpp (some bb)], 0⟩ ∧ OutAt h bp op F ∧ OutAt h bb ob K ∧
    (∀ F' h', OutTo h bp op F' h' → IdxAt2 h' px F' K ∧ h' px = h px) ∧ (∀ K' h', OutTo h bb ob K' h' → IdxAt2 h' px F K' ∧ h' px = h px) := by
  obtain ⟨bp, bb, op, ob, h1, h2, h3, h4⟩ := hx
  have n1 : px ∉ outs bp op := fun hc => by obtain ⟨es, t, e⟩ := h2.raw hc; rw [h1] at e; cases e
  have n2 : px ∉ outs bb ob := fun hc => by obtain ⟨es, t, e⟩ := h3.raw hc; rw [h1] at e; cases e
  have hp : h px ≠ none := by rw [h1]; simp
  refine ⟨bp, bb, op, ob, h1, h2, h3, ?_, ?_⟩
  · rintro F' h' ⟨o', k1, k2, k3⟩
    refine ⟨⟨bp, bb, o', ob, (k2 px n1 hp).trans h1, k1, h3.keep fun c hc => k2 c (fun e => h4 c e hc) (h3.lt hc), fun c hc hc' => ?_⟩, k2 px n1 hp⟩
    rcases OutTo.mem k3 hc with e | e
    · exact h4 c e hc'
    · exact h3.lt hc' e
  · rintro K' h' ⟨o', k1, k2, k3⟩
    refine ⟨⟨bp, bb, op, o', (k2 px n2 hp).trans h1, h2.keep fun c hc => k2 c (h4 c hc) (h2.lt hc), k1, fun c hc hc' => ?_⟩, k2 px n2 hp⟩
    rcases OutTo.mem k3 hc' with e | e
    · exact h4 c hc e
    · exact h2.lt hc e
theorem addP_step {W : List (Int × Int)} {i : Int} {ps : List Int} {k : Nat} (hk : k < ps.length) (a b : Int) : (a, b) ∈ addP W i (ps.take (k + 1)) ↔ (a, b) ∈ addP W i (ps.take k) ∨ (a = i ∧ b = ps.getD k 0) := by
  rw [take_snoc ps 0 hk, addP_mem, addP_mem, List.mem_append, List.mem_singleton]
  simp only
  constructor
  · rintro (h | ⟨h1, h2 | h2⟩)
    · exact .inl (.inl h)
    · exact .inl (.inr ⟨h1, h2⟩)
    · exact .inr ⟨h1, h2⟩
  · rintro ((h | ⟨h1, h2⟩) | ⟨h1, h2⟩)
    · exact .inl h
    · exact .inr ⟨h1, .inl h2⟩
    · exact .inr ⟨h1, .inr h2⟩
theorem Add_spec {px : Nat} {W : List (Int × Int)} (hx : IdxAt h px W) {i : Int} {ps : List Int} (hi : i64R i) (hps : ∀ p ∈ ps, i64R p) (hl : ps.length ≤ 1000000) :
    Spec Try.prog G 8 [.ptr px 0, .int .i64 i, zr ps] h (fun r h' => r = .tup [] ∧ IdxAt h' px (addP W i ps)) := by
  refine Spec.walk C8ok rfl ?_
  simp only [push_cast, simprocAttr]
  refine lpc.rel [0, 1, 10, 11, 12] (fun m ρ h' => ∃ k : Nat, m = ps.length - k ∧ k ≤ ps.length ∧ IdxAt h' px (addP W i (ps.take k)) ∧
    ρ = [(0, .ptr px 0), (1, .int .i64 i), (10, zr ps), (11, .int .i64 (ps.length : Int)), (12, .int .i64 (k : Int))]) ⟨_, 0, rfl, by omega, hx, rfl⟩ ?_
  rintro m _ h2 ⟨k, rfl, hk, hx2, rfl⟩
  by_cases hk2 : k < ps.length
  · have e1 := zr_at ps hk2
    have hp : i64R (ps.getD k 0) := hps _ (getD_in hk2)
    obtain ⟨bp, bb, op, ob, q1, q2, q3, q4, _⟩ := hx2.turn
    have hst := fun a b => addP_step (W := W) (i := i) hk2 a b
    generalize ps.getD k 0 = p at *
    simp (disch := omega) only [push_cast, simprocAttr, wrap_i64, toNat_ofInt64, Nat.min_eq_left, Int.toNat_of_nonneg, hk2, e1, q1]
    refine (put_spec q2 hi hp).mono ?_
    rintro _ h3 ⟨rfl, hto⟩
    obtain ⟨hx3, hpx3⟩ := q4 _ _ hto
    obtain ⟨bp', bb', op', ob', q1', q2', q3', _, q5'⟩ := hx3.turn
    rw [hpx3, q1] at q1'
    simp only [Option.some.injEq, Blk.mk.injEq, List.cons.injEq, AV.mpp.injEq, and_true] at q1'
    obtain ⟨rfl, rfl⟩ := q1'
    have q1'' := hpx3.trans q1
    simp (disch := omega) only [push_cast, simprocAttr, wrap_i64, toNat_ofInt64, Nat.min_eq_left, Int.toNat_of_nonneg, q1'']
    refine (put_spec q3' hp hi).mono ?_
    rintro _ h4 ⟨rfl, hto2⟩
    obtain ⟨hx4, hpx4⟩ := q5' _ _ hto2
    simp (disch := omega) only [push_cast, simprocAttr, wrap_i64, toNat_ofInt64, Nat.min_eq_left, Int.toNat_of_nonneg]
    have hx5 : IdxAt h4 px (addP W i (ps.take (k + 1))) := hx4.imp (fun a b => (hst a b).symm) (fun b a => by rw [hst a b, and_comm (a := a = i)])
    exact ⟨_, _, by omega, .refl _, k + 1, rfl, by omega, hx5, rfl⟩
  · obtain rfl : k = ps.length := by omega
    rw [List.take_length] at hx2
    simp only [push_cast, simprocAttr, hk2]
    exact hx2
theorem zr_of {f : Int → Prop} {L : List Int} (hL : ascL L) (hm : ∀ x, x ∈ L ↔ f x) {r : AV} {h' : Heap} (hq : SrtQ h f r h') : r = zr L ∧ h' = h := by
  obtain ⟨ss, rfl, rfl, h1, h2⟩ := hq
  exact ⟨by rw [asc_ext h1 hL fun x => (h2 x).trans (hm x).symm], rfl⟩
theorem Pages_spec {px : Nat} {W : List (Int × Int)} (hx : IdxAt h px W) (i : Int) (hl : W.length ≤ 1000000) : Spec Try.prog G 22 [.ptr px 0, .int .i64 i] h (fun r h' => r = zr (pgP W i) ∧ h' = h) := by
  obtain ⟨bp, bb, op, ob, q1, q2, q3, _, _⟩ := hx.turn
  obtain ⟨es, t, hb, hm, hfd⟩ := q2.find i
  rcases hfd with ⟨g1, g2⟩ | ⟨j, c, g1, g2⟩
  · refine Spec.walk C22ok rfl ?_
    simp only [push_cast, simprocAttr, q1, hb, g1]
    refine setSorted_nil.mono fun r h' hq => ?_
    obtain ⟨rfl, rfl⟩ := zr_of (sortU_asc _) (L := pgP W i) (fun x => by rw [pgP_mem]; simp only [iff_false]; intro e; obtain ⟨c, hc⟩ := q2.has _ _ e; exact g2 _ hc rfl) hq
    simp only [push_cast, simprocAttr]
    try exact ⟨rfl, rfl⟩
  · refine Spec.walk C22ok rfl ?_
    simp only [push_cast, simprocAttr, q1, hb, g1]
    refine (setSorted_spec (q2.sets _ (List.mem_of_getElem? g2)).1 (W.map (·.2)) (by simpa using hl) (fun x hx => List.mem_map.2 ⟨_, hx, rfl⟩)).mono fun r h' hq => ?_
    obtain ⟨rfl, rfl⟩ := zr_of (sortU_asc _) (L := pgP W i) (fun x => pgP_mem) hq
    simp only [push_cast, simprocAttr]
    try exact ⟨rfl, rfl⟩
theorem Of_spec {px : Nat} {W : List (Int × Int)} (hx : IdxAt h px W) (p : Int) (hl : W.length ≤ 1000000) : Spec Try.prog G 12 [.ptr px 0, .int .i64 p] h (fun r h' => r = zr (ofP W p) ∧ h' = h) := by
  obtain ⟨bp, bb, op, ob, q1, q2, q3, _, _⟩ := hx.turn
  obtain ⟨es, t, hb, hm, hfd⟩ := q3.find p
  rcases hfd with ⟨g1, g2⟩ | ⟨j, c, g1, g2⟩
  · refine Spec.walk C12ok rfl ?_
    simp only [push_cast, simprocAttr, q1, hb, g1]
    refine setSorted_nil.mono fun r h' hq => ?_
    obtain ⟨rfl, rfl⟩ := zr_of (sortU_asc _) (L := ofP W p) (fun x => by rw [ofP_mem]; simp only [iff_false]; intro e; obtain ⟨c, hc⟩ := q3.has _ _ e; exact g2 _ hc rfl) hq
    simp only [push_cast, simprocAttr]
    try exact ⟨rfl, rfl⟩
  · refine Spec.walk C12ok rfl ?_
    simp only [push_cast, simprocAttr, q1, hb, g1]
    refine (setSorted_spec (q3.sets _ (List.mem_of_getElem? g2)).1 (W.map (·.1)) (by simpa using hl) (fun x hx => List.mem_map.2 ⟨_, hx, rfl⟩)).mono fun r h' hq => ?_
    obtain ⟨rfl, rfl⟩ := zr_of (sortU_asc _) (L := ofP W p) (fun x => ofP_mem) hq
    simp only [push_cast, simprocAttr]
    try exact ⟨rfl, rfl⟩
end Go.Ab
