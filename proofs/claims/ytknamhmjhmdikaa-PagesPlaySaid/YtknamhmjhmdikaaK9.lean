/- The index: all pages, how many blocks, dropped, hit. -/
import Derived.Test.YtknamhmjhmdikaaK8
set_option linter.unusedSimpArgs false
set_option linter.unusedVariables false
set_option maxRecDepth 10000
namespace Go.Ab
open Go.Proofs
variable {G : Glo} {h : Heap}
theorem IdxAt.of_mem {px : Nat} {W V : List (Int × Int)} (hx : IdxAt h px W) (e : ∀ q, q ∈ W ↔ q ∈ V) : IdxAt h px V := IdxAt2.imp hx (fun a b => e (a, b)) (fun b a => e (a, b))
theorem OutAt.keysOf {b : Nat} {o : List (Int × Nat)} {f : Int → Int → Prop} (ho : OutAt h b o f) (k : Int) : k ∈ (o.map fun p => (p.1, Value.map (some p.2))).map (·.1) ↔ ∃ x, f k x := by
  rw [List.map_map, List.mem_map]
  constructor
  · rintro ⟨p, hp, rfl⟩
    exact (ho.sets p hp).2
  · rintro ⟨x, hx⟩
    obtain ⟨c, hc⟩ := ho.has k x hx
    exact ⟨_, hc, rfl⟩
theorem All_spec {px : Nat} {W : List (Int × Int)} (hx : IdxAt h px W) (hl : W.length ≤ 1000000) : Spec Try.prog G 14 [.ptr px 0] h (Is (zr (allP W)) h) := by
  obtain ⟨bp, bb, op, ob, q1, q2, q3, _, _⟩ := hx.turn
  obtain ⟨es, t, hb, hm⟩ := q3.blk
  have hml : (ob.map fun p => (p.1, Value.map (some p.2))).length ≤ 1000000 := by
    have := nd_le hm.nd (b := W.map (·.2)) (fun k hk => by
      obtain ⟨x, hx⟩ := (q3.keysOf k).1 hk
      exact List.mem_map.2 ⟨_, hx, rfl⟩)
    simp only [List.length_map] at this ⊢
    omega
  have hps : px ≠ bb := by rintro rfl; rw [q1] at hb; cases hb
  refine Spec.is C14ok rfl ?_
  simp only [push_cast, simprocAttr, q1]
  refine (keysA_spec _).mono ?_
  rintro _ _ ⟨d, hd, rfl, rfl⟩
  simp only [push_cast, simprocAttr]
  have hbd : bb ≠ d := by rintro rfl; rw [hb] at hd; cases hd
  refine (sorted_of KeysA (upd_same _ _ _) ((upd_ne hbd).trans hb) hm hml).mono fun r h' hq => ?_
  obtain ⟨rfl, rfl⟩ := zr_of (sortU_asc _) (L := allP W) (fun x => by rw [q3.keysOf, allP_mem]) hq
  simp only [push_cast, simprocAttr]
  first | exact (Sub.refl h).alloc hd | exact ⟨rfl, (Sub.refl h).alloc hd⟩
theorem Len_spec {px : Nat} {W : List (Int × Int)} (hx : IdxAt h px W) : Spec Try.prog G 16 [.ptr px 0] h (Is (.int .i64 ((idsP W).length : Int)) h) := by
  obtain ⟨bp, bb, op, ob, q1, q2, q3, _, _⟩ := hx.turn
  obtain ⟨es, t, hb, hm⟩ := q2.blk
  have hsz : (es.size : Int) = ((idsP W).length : Int) := by
    have h1 := hm.size
    have h2 := nd_eq hm.nd (asc_nd (sortU_asc (W.map (·.1)))) (fun x => by
      rw [q2.keysOf]
      exact (idsP_mem (W := W)).symm)
    rw [List.length_map] at h2
    unfold idsP
    omega
  refine Spec.is C16ok rfl ?_
  simp only [push_cast, simprocAttr, q1, hb, hsz]
def cutP (W : List (Int × Int)) (i : Int) (l : List Int) : List (Int × Int) := W.filter fun q => !(q.1 == i && l.contains q.2)
theorem cutP_mem {W : List (Int × Int)} {i : Int} {l : List Int} {q : Int × Int} : q ∈ cutP W i l ↔ q ∈ W ∧ ¬ (q.1 = i ∧ q.2 ∈ l) := by
  simp only [cutP, List.mem_filter, Bool.not_eq_true', Bool.and_eq_false_iff, beq_eq_false_iff_ne, ne_eq, List.contains_eq_mem, decide_eq_false_iff_not]
  constructor
  · rintro ⟨h1, h2⟩; exact ⟨h1, fun ⟨e1, e2⟩ => h2.elim (fun h => h e1) (fun h => h e2)⟩
  · rintro ⟨h1, h2⟩
    refine ⟨h1, ?_⟩
    by_cases e : q.1 = i
    · exact .inr fun e2 => h2 ⟨e, e2⟩
    · exact .inl e
theorem cut_step {W : List (Int × Int)} {i : Int} {ps : List Int} {k : Nat} (hk : k < ps.length) (a b : Int) : (a, b) ∈ cutP W i (ps.take (k + 1)) ↔ (a, b) ∈ cutP W i (ps.take k) ∧ ¬ (a = i ∧ b = ps.getD k 0) := by
  rw [cutP_mem, cutP_mem, take_snoc ps 0 hk, List.mem_append, List.mem_singleton]
  simp only
  constructor
  · rintro ⟨h1, h2⟩; exact ⟨⟨h1, fun e => h2 ⟨e.1, .inl e.2⟩⟩, fun e => h2 ⟨e.1, .inr e.2⟩⟩
  · rintro ⟨⟨h1, h2⟩, h3⟩; exact ⟨h1, fun ⟨e1, e2⟩ => e2.elim (fun e => h2 ⟨e1, e⟩) (fun e => h3 ⟨e1, e⟩)⟩
theorem Drop_spec {px : Nat} {W : List (Int × Int)} (hx : IdxAt h px W) (i : Int) (hl : W.length ≤ 1000000) :
    Spec Try.prog G 10 [.ptr px 0, .int .i64 i] h (fun r h' => r = .bool (decide (0 < (pgP W i).length)) ∧ IdxAt h' px (dropP W i)) := by
  have hend : ∀ h', IdxAt h' px (cutP W i (pgP W i)) → IdxAt h' px (dropP W i) := fun h' hx => hx.of_mem fun q => by
    rw [cutP_mem, dropP_mem]
    constructor
    · rintro ⟨h1, h2⟩; exact ⟨h1, fun e => h2 ⟨e, pgP_mem.2 (by rw [← e]; exact h1)⟩⟩
    · rintro ⟨h1, h2⟩; exact ⟨h1, fun e => h2 e.1⟩
  have hP := Pages_spec (G := G) hx i hl
  have hpl : (pgP W i).length ≤ 1000000 := by
    have := sortU_len ((W.filter fun q => q.1 == i).map (·.2))
    have h2 := List.length_filter_le (fun q : Int × Int => q.1 == i) W
    rw [List.length_map] at this
    unfold pgP
    omega
  generalize pgP W i = ps at *
  refine Spec.walk C10ok rfl ?_
  simp only [push_cast, simprocAttr]
  refine hP.mono ?_
  rintro r h1 ⟨e1, e2⟩
  rw [e1, e2]
  clear e1 e2
  simp only [push_cast, simprocAttr]
  have hx0 : IdxAt h px (cutP W i (ps.take 0)) := hx.of_mem fun q => by rw [cutP_mem]; simp
  refine lpc.rel [0, 1, 5, 11, 12, 13] (fun m ρ h' => ∃ k : Nat, m = ps.length - k ∧ k ≤ ps.length ∧ IdxAt h' px (cutP W i (ps.take k)) ∧
    ρ = [(0, .ptr px 0), (1, .int .i64 i), (5, zr ps), (11, zr ps), (12, .int .i64 (ps.length : Int)), (13, .int .i64 (k : Int))]) ⟨_, 0, rfl, by omega, hx0, rfl⟩ ?_
  rintro m _ h2 ⟨k, rfl, hk, hx2, rfl⟩
  by_cases hk2 : k < ps.length
  · have e1 := zr_at ps hk2
    obtain ⟨bp, bb, op, ob, q1, q2, q3, q4, _⟩ := hx2.turn
    have hst := fun a b => cut_step (W := W) (i := i) hk2 a b
    generalize ps.getD k 0 = p at *
    simp (disch := omega) only [push_cast, simprocAttr, wrap_i64, toNat_ofInt64, Nat.min_eq_left, Int.toNat_of_nonneg, hk2, e1, q1]
    refine (take_spec q2 i p).mono ?_
    rintro _ h3 ⟨rfl, hto⟩
    obtain ⟨hx3, hpx3⟩ := q4 _ _ hto
    obtain ⟨bp', bb', op', ob', q1', q2', q3', _, q5'⟩ := hx3.turn
    rw [hpx3, q1] at q1'
    simp only [Option.some.injEq, Blk.mk.injEq, List.cons.injEq, AV.mpp.injEq, and_true] at q1'
    obtain ⟨rfl, rfl⟩ := q1'
    have q1'' := hpx3.trans q1
    simp (disch := omega) only [push_cast, simprocAttr, wrap_i64, toNat_ofInt64, Nat.min_eq_left, Int.toNat_of_nonneg, q1'']
    refine (take_spec q3' p i).mono ?_
    rintro _ h4 ⟨rfl, hto2⟩
    obtain ⟨hx4, hpx4⟩ := q5' _ _ hto2
    simp (disch := omega) only [push_cast, simprocAttr, wrap_i64, toNat_ofInt64, Nat.min_eq_left, Int.toNat_of_nonneg]
    have hx5 : IdxAt h4 px (cutP W i (ps.take (k + 1))) := hx4.imp (fun a b => (hst a b).symm) (fun b a => by rw [hst a b, and_comm (a := a = i)])
    exact ⟨_, _, by omega, .refl _, k + 1, rfl, by omega, hx5, rfl⟩
  · obtain rfl : k = ps.length := by omega
    rw [List.take_length] at hx2
    simp only [push_cast, simprocAttr, hk2]
    refine ⟨?_, hend _ hx2⟩
    try rfl
    try simp
end Go.Ab
