/- The index: the blocks that are hit; a new one; none; the example. -/
import Derived.Test.YtknamhmjhmdikaaK9
set_option linter.unusedSimpArgs false
set_option linter.unusedVariables false
set_option maxRecDepth 10000
namespace Go.Ab
open Go.Proofs
variable {G : Glo} {h : Heap}
/-- The blocks that are hit by the first pages. -/
def hitK (W : List (Int × Int)) (wt : List Bool) (P : List Int) (x : Int) : Prop := ∃ p ∈ P, unw wt p = true ∧ (x, p) ∈ W
theorem hitK_snoc {W : List (Int × Int)} {wt : List Bool} {P : List Int} {p x : Int} : hitK W wt (P ++ [p]) x ↔ hitK W wt P x ∨ (unw wt p = true ∧ (x, p) ∈ W) := by
  unfold hitK
  constructor
  · rintro ⟨q, hq, h1, h2⟩
    rcases List.mem_append.1 hq with hq | hq
    · exact .inl ⟨q, hq, h1, h2⟩
    · simp at hq; subst hq; exact .inr ⟨h1, h2⟩
  · rintro (⟨q, hq, h1, h2⟩ | ⟨h1, h2⟩)
    · exact ⟨q, by simp [hq], h1, h2⟩
    · exact ⟨p, by simp, h1, h2⟩
theorem Hit_spec {px : Nat} {W : List (Int × Int)} (hx : IdxAt h px W) (wt : List Bool) (hl : W.length ≤ 1000000) (hwl : wt.length ≤ 1000000) :
    Spec Try.prog G 20 [.ptr px 0, .ro (wt.map AV.bool) wt.length] h (Is (zr (hitP W wt)) h) := by
  have hpl : (allP W).length ≤ 1000000 := by
    have := sortU_len (W.map (·.2))
    rw [List.length_map] at this
    unfold allP
    omega
  have hpm := fun p => allP_mem (W := W) (x := p)
  have hend : ∀ x, hitK W wt (allP W) x ↔ x ∈ hitP W wt := fun x => by
    rw [hitP_mem]
    unfold hitK
    constructor
    · rintro ⟨p, _, h1, h2⟩; exact ⟨p, h2, h1⟩
    · rintro ⟨p, h2, h1⟩; exact ⟨p, (hpm p).2 ⟨x, h2⟩, h1, h2⟩
  have hA := fun H (hx : IdxAt H px W) => All_spec (G := G) hx hl
  refine Spec.weak (Q := fun r h' => r = zr (hitP W wt) ∧ Sub h h') ?_ (fun r h1 ⟨e, hs⟩ => ⟨r, h, ⟨e, rfl⟩, lessK hs⟩)
  obtain ⟨bp, bb, op, ob, q1, q2, q3, q4⟩ := hx
  refine Spec.walk C20ok rfl ?_
  simp only [push_cast, simprocAttr]
  intro d hd
  have key : ∀ X, h px ≠ none → Ab.upd h d X px = h px := fun X hn => upd_ne (by rintro rfl; exact hn hd)
  have hxd : ∀ X, Ab.upd h d X px = some ⟨[.mpp (some bp), .mpp (some bb)], 0⟩ ∧ OutAt (Ab.upd h d X) bp op (fun i p => (i, p) ∈ W) ∧ OutAt (Ab.upd h d X) bb ob (fun p i => (i, p) ∈ W) := fun X => by
    refine ⟨(key X (by rw [q1]; simp)).trans q1, q2.keep fun c hc => upd_ne ?_, q3.keep fun c hc => upd_ne ?_⟩
    · rintro rfl; exact q2.lt hc hd
    · rintro rfl; exact q3.lt hc hd
  have hxI : ∀ X, IdxAt (Ab.upd h d X) px W := fun X => ⟨bp, bb, op, ob, (hxd X).1, (hxd X).2.1, (hxd X).2.2, q4⟩
  refine (hA _ (hxI _)).to ?_
  simp only [push_cast, simprocAttr]
  refine lpc.rel [0, 1, 5, 10, 11, 12] (fun m ρ h' => ∃ (k : Nat) (es : Array MapEntry) (t : Nat) (mm : List (Int × Value)), m = (allP W).length - k ∧ k ≤ (allP W).length ∧ h' = Ab.upd h d (mpB es t) ∧ MpI es t mm ∧ (∀ x, x ∈ mm.map (·.1) ↔ hitK W wt ((allP W).take k) x) ∧
    ρ = [(0, .ptr px 0), (1, .ro (wt.map AV.bool) wt.length), (5, .mpp (some d)), (10, zr (allP W)), (11, .int .i64 ((allP W).length : Int)), (12, .int .i64 (k : Int))]) ⟨_, 0, _, _, _, rfl, by omega, rfl, MpI.nil, fun x => by simp [hitK], rfl⟩ ?_
  rintro m _ _ ⟨k, es, t, mm, rfl, hk, rfl, hm, hmx, rfl⟩
  by_cases hk2 : k < (allP W).length
  · have e1 := zr_at (allP W) hk2
    have hpW := (hpm _).1 (getD_in (d := 0) hk2)
    have hsn := take_snoc (allP W) 0 hk2
    generalize allP W = P at *
    generalize P.getD k 0 = p at *
    obtain ⟨i0, hi0⟩ := hpW
    have hu : unw wt p = !(decide (0 ≤ p) && decide (p < (wt.length : Int)) && wt.getD p.toNat false) := rfl
    obtain ⟨r1, _, r3⟩ := hxd (mpB es t)
    have hmu : Ab.upd h d (mpB es t) d = some (mpB es t) := upd_same _ _ _
    have skip : unw wt p = false → ∀ x, x ∈ mm.map (·.1) ↔ hitK W wt (P.take (k + 1)) x := fun hf x => by
      rw [hsn, hitK_snoc, hf, hmx]; simp
    have hcopy : unw wt p = true → ∃ es2 t2 c j, Ab.upd h d (mpB es t) bb = some (mpB es2 t2) ∧ fnd .i64 .i64 p es2 = some (some (j, .map (some c))) ∧ ∀ Q : AV → Heap → Prop, (∀ es' t' m', MpI es' t' m' → (∀ x, x ∈ m'.map (·.1) ↔ hitK W wt (P.take (k + 1)) x) → Q (.tup []) (Ab.upd h d (mpB es' t'))) →
        Spec Try.prog G 30 [.mpp (some d), .mpp (some c)] (Ab.upd h d (mpB es t)) Q := fun hf => by
      obtain ⟨es2, t2, hb, hm2, hfd⟩ := r3.find p
      rcases hfd with ⟨_, g2⟩ | ⟨j, c, g1, g2⟩
      · obtain ⟨c, hc⟩ := r3.has _ _ hi0
        exact absurd rfl (g2 _ hc)
      · obtain ⟨es3, t3, m3, hc3, hm3, hx3⟩ := (r3.sets _ (List.mem_of_getElem? g2)).1
        have hdc : d ≠ c := by
          rintro rfl
          have : d ∈ outs bb ob := outs_of (.inr ⟨_, List.mem_of_getElem? g2, rfl⟩)
          exact q3.lt this hd
        have l1 : mm.length ≤ 1000000 := by
          have := nd_le hm.nd (b := W.map (·.1)) (fun x hx => by
            obtain ⟨q, _, _, h2⟩ := (hmx x).1 hx
            exact List.mem_map.2 ⟨_, h2, rfl⟩)
          simp only [List.length_map] at this
          omega
        have l2 : m3.length ≤ 1000000 := by
          have := nd_le hm3.nd (b := W.map (·.1)) (fun x hx => List.mem_map.2 ⟨_, (hx3 x).1 hx, rfl⟩)
          simp only [List.length_map] at this
          omega
        refine ⟨es2, t2, c, j, hb, g1, fun Q hq => (copy_spec hmu hc3 hm hm3 hdc l1 l2).mono ?_⟩
        rintro _ _ ⟨rfl, es', t', m', rfl, k1, k2⟩
        rw [upd_upd]
        refine hq es' t' m' k1 fun x => ?_
        rw [k2, hsn, hitK_snoc, hmx, hx3, hf]
        simp
    have fin : ∀ es' t' m', MpI es' t' m' → (∀ x, x ∈ m'.map (·.1) ↔ hitK W wt (P.take (k + 1)) x) → True := fun _ _ _ _ _ => trivial
    by_cases c1 : 0 ≤ p
    · by_cases c2 : p < (wt.length : Int)
      · obtain ⟨b, hb, hb'⟩ : ∃ b, wt.getD p.toNat false = b ∧ (wt.map AV.bool)[p.toNat]? = some (.bool b) := by
          have hlt : p.toNat < wt.length := by omega
          exact ⟨_, rfl, by simp [List.getD_eq_getElem?_getD, hlt]⟩
        have c3 : p ≥ 0 := c1
        cases b with
        | true =>
          have hf : unw wt p = false := by rw [hu, hb]; simp; omega
          simp (disch := omega) only [push_cast, simprocAttr, wrap_i64, toNat_ofInt64, Nat.min_eq_left, Int.toNat_of_nonneg, hk2, e1, c1, c2, c3, hb']
          exact ⟨_, _, by omega, .refl _, k + 1, es, t, mm, rfl, by omega, rfl, hm, skip hf, rfl⟩
        | false =>
          have hf : unw wt p = true := by rw [hu, hb]; simp
          obtain ⟨es2, t2, c, j, s1, s2, s3⟩ := hcopy hf
          simp (disch := omega) only [push_cast, simprocAttr, wrap_i64, toNat_ofInt64, Nat.min_eq_left, Int.toNat_of_nonneg, hk2, e1, c1, c2, c3, hb', r1, s1, s2]
          refine s3 _ fun es' t' m' u1 u2 => ?_
          simp (disch := omega) only [push_cast, simprocAttr, wrap_i64, toNat_ofInt64, Nat.min_eq_left, Int.toNat_of_nonneg]
          exact ⟨_, _, by omega, .refl _, k + 1, es', t', m', rfl, by omega, rfl, u1, u2, rfl⟩
      · have hf : unw wt p = true := by rw [hu]; simp; omega
        have c3 : p ≥ 0 := c1
        obtain ⟨es2, t2, c, j, s1, s2, s3⟩ := hcopy hf
        simp (disch := omega) only [push_cast, simprocAttr, wrap_i64, toNat_ofInt64, Nat.min_eq_left, Int.toNat_of_nonneg, hk2, e1, c1, c2, c3, r1, s1, s2]
        refine s3 _ fun es' t' m' u1 u2 => ?_
        simp (disch := omega) only [push_cast, simprocAttr, wrap_i64, toNat_ofInt64, Nat.min_eq_left, Int.toNat_of_nonneg]
        exact ⟨_, _, by omega, .refl _, k + 1, es', t', m', rfl, by omega, rfl, u1, u2, rfl⟩
    · have hf : unw wt p = true := by rw [hu]; simp; omega
      have c3 : ¬ p ≥ 0 := c1
      obtain ⟨es2, t2, c, j, s1, s2, s3⟩ := hcopy hf
      simp (disch := omega) only [push_cast, simprocAttr, wrap_i64, toNat_ofInt64, Nat.min_eq_left, Int.toNat_of_nonneg, hk2, e1, c1, c3, r1, s1, s2]
      refine s3 _ fun es' t' m' u1 u2 => ?_
      simp (disch := omega) only [push_cast, simprocAttr, wrap_i64, toNat_ofInt64, Nat.min_eq_left, Int.toNat_of_nonneg]
      exact ⟨_, _, by omega, .refl _, k + 1, es', t', m', rfl, by omega, rfl, u1, u2, rfl⟩
  · obtain rfl : k = (allP W).length := by omega
    rw [List.take_length] at hmx
    simp only [push_cast, simprocAttr, hk2]
    have hS : StAt (Ab.upd h d (mpB es t)) d (fun x => x ∈ hitP W wt) := ⟨es, t, mm, upd_same _ _ _, hm, fun x => (hmx x).trans (hend x)⟩
    refine (setSorted_spec hS (W.map (·.1)) (by simpa using hl) (fun x hx => by
      obtain ⟨p, h2, _⟩ := hitP_mem.1 hx
      exact List.mem_map.2 ⟨_, h2, rfl⟩)).mono fun r h' hq => ?_
    obtain ⟨rfl, rfl⟩ := zr_of (sortU_asc _) (L := hitP W wt) (fun x => Iff.rfl) hq
    simp only [push_cast, simprocAttr]
    first | exact (Sub.refl h).alloc hd | exact ⟨rfl, (Sub.refl h).alloc hd⟩
end Go.Ab
