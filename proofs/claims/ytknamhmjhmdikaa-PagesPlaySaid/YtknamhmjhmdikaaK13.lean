/- The law: any blocks added and dropped, in turn. -/
import Derived.Test.YtknamhmjhmdikaaK12
set_option linter.unusedSimpArgs false
set_option linter.unusedVariables false
set_option maxRecDepth 10000
namespace Go.Ab
open Go.Proofs
variable {G : Glo} {h : Heap}
@[push_cast] theorem ISp.c0 (s : ISp) : s.cells[0]? = some (.int .i64 s.kind) := rfl
@[push_cast] theorem ISp.c1 (s : ISp) : s.cells[1]? = some (.int .i64 s.id) := rfl
@[push_cast] theorem ISp.c2 (s : ISp) : s.cells[2]? = some (zr s.pages) := rfl
@[push_cast] theorem ISp.c3 (s : ISp) : s.cells[3]? = some (.ro (s.wt.map AV.bool) s.wt.length) := rfl
@[push_cast] theorem ISp.sp (s : ISp) (a b c d : AV) : splice [a, b, c, d] 0 s.cells = s.cells := rfl
def plW (l : List ISp) : List (Int × Int) := l.foldl (fun W s => if s.kind = 1 then addP W s.id s.pages else if s.kind = 2 then dropP W s.id else W) []
theorem plW_snoc (l : List ISp) (s : ISp) : plW (l ++ [s]) = if s.kind = 1 then addP (plW l) s.id s.pages else if s.kind = 2 then dropP (plW l) s.id else plW l := by
  unfold plW; rw [List.foldl_append]; rfl
/-- Behind a step: each answer is the document's. -/
theorem play_body {l : List ISp} {s : ISp} {W : List (Int × Int)} {px k : Nat} {H : Heap} {Q : Exit → Env → Heap → Prop} (hx : IdxAt H px W) (hl : W.length ≤ 100000)
    (hq : ∀ ρ H', lk ρ 0 = sps l → lk ρ 3 = .ptr px 0 → lk ρ 4 = prs W → lk ρ 5 = .int .i64 (k : Int) → IdxAt H' px W → Q .normal ρ H')
    (hr : ∀ ρ H', lk ρ 2 = .bool true → Q .ret ρ H') :
    wpc Try.prog G Try.f4.ntmps C4_54 Q [(0, sps l), (3, .ptr px 0), (4, prs W), (5, .int .i64 (k : Int)), (6, .cp s.cells 0)] H := by
  by_cases h5 : (s.wt.length : Int) > 20
  · by_cases h6 : (s.pages.length : Int) > 0
    · have e1 := zr_at s.pages (k := 0) (by omega)
      have h6' : 0 < s.pages.length := by omega
      simp (disch := omega) only [push_cast, simprocAttr, wrap_i64, toNat_ofInt64, Nat.min_eq_left, Int.toNat_of_nonneg, h6, h6', e1, h5]
      refine awake36_spec.mono ?_
      rintro _ _ ⟨rfl, _⟩
      simp (disch := omega) only [push_cast, simprocAttr, wrap_i64, toNat_ofInt64, Nat.min_eq_left, Int.toNat_of_nonneg]
      exact hr _ _ rfl
    · simp (disch := omega) only [push_cast, simprocAttr, wrap_i64, toNat_ofInt64, Nat.min_eq_left, Int.toNat_of_nonneg, h6, h5]
      refine awake36_spec.mono ?_
      rintro _ _ ⟨rfl, _⟩
      simp (disch := omega) only [push_cast, simprocAttr, wrap_i64, toNat_ofInt64, Nat.min_eq_left, Int.toNat_of_nonneg]
      exact hr _ _ rfl
  · have hH := fun H (hx : IdxAt H px W) => Hit_spec (G := G) hx s.wt (by omega) (by omega)
    have hh := fun H => rhit36_spec (G := G) (h := H) W s.wt (by omega)
    have hsH := fun H => sameInts_spec (G := G) (h := H) (hitP W s.wt) (hitP W s.wt) (by have := hitP_len W s.wt; omega)
    have hsP := fun H => sameInts_spec (G := G) (h := H) (pgP W s.id) (pgP W s.id) (by have := pgP_len W s.id; omega)
    have hsO := fun H p => sameInts_spec (G := G) (h := H) (ofP W p) (ofP W p) (by have := ofP_len W p; omega)
    have hsA := fun H => sameInts_spec (G := G) (h := H) (allP W) (allP W) (by have := allP_len W; omega)
    have hbb : ∀ n : Nat, ((n : Int) != (n : Int)) = false := fun n => by simp
    by_cases h6 : (s.pages.length : Int) > 0
    · have e1 := zr_at s.pages (k := 0) (by omega)
      have h6' : 0 < s.pages.length := by omega
      generalize s.pages.getD 0 0 = p0 at *
      simp (disch := omega) only [push_cast, simprocAttr, wrap_i64, toNat_ofInt64, Nat.min_eq_left, Int.toNat_of_nonneg, h6, h6', e1, h5]
      refine (hH _ hx).mono ?_
      rintro _ _ ⟨rfl, rfl⟩
      simp (disch := omega) only [push_cast, simprocAttr, wrap_i64, toNat_ofInt64, Nat.min_eq_left, Int.toNat_of_nonneg]
      refine (hh _).mono ?_
      rintro _ _ ⟨rfl, rfl⟩
      simp (disch := omega) only [push_cast, simprocAttr, wrap_i64, toNat_ofInt64, Nat.min_eq_left, Int.toNat_of_nonneg]
      refine (hsH _).mono ?_
      rintro _ _ ⟨rfl, rfl⟩
      simp (disch := omega) only [push_cast, simprocAttr, wrap_i64, toNat_ofInt64, Nat.min_eq_left, Int.toNat_of_nonneg, h5]
      refine (Pages_spec hx s.id (by omega)).mono ?_
      rintro _ _ ⟨rfl, rfl⟩
      simp (disch := omega) only [push_cast, simprocAttr, wrap_i64, toNat_ofInt64, Nat.min_eq_left, Int.toNat_of_nonneg]
      refine (rPages36_spec W s.id (by omega)).mono ?_
      rintro _ _ ⟨rfl, rfl⟩
      simp (disch := omega) only [push_cast, simprocAttr, wrap_i64, toNat_ofInt64, Nat.min_eq_left, Int.toNat_of_nonneg]
      refine (hsP _).mono ?_
      rintro _ _ ⟨rfl, rfl⟩
      simp (disch := omega) only [push_cast, simprocAttr, wrap_i64, toNat_ofInt64, Nat.min_eq_left, Int.toNat_of_nonneg]
      refine (Of_spec hx p0 (by omega)).mono ?_
      rintro _ _ ⟨rfl, rfl⟩
      simp (disch := omega) only [push_cast, simprocAttr, wrap_i64, toNat_ofInt64, Nat.min_eq_left, Int.toNat_of_nonneg]
      refine (rOf36_spec W p0 (by omega)).mono ?_
      rintro _ _ ⟨rfl, rfl⟩
      simp (disch := omega) only [push_cast, simprocAttr, wrap_i64, toNat_ofInt64, Nat.min_eq_left, Int.toNat_of_nonneg]
      refine (hsO _ _).mono ?_
      rintro _ _ ⟨rfl, rfl⟩
      simp (disch := omega) only [push_cast, simprocAttr, wrap_i64, toNat_ofInt64, Nat.min_eq_left, Int.toNat_of_nonneg]
      refine (All_spec hx (by omega)).mono ?_
      rintro _ _ ⟨rfl, rfl⟩
      simp (disch := omega) only [push_cast, simprocAttr, wrap_i64, toNat_ofInt64, Nat.min_eq_left, Int.toNat_of_nonneg]
      refine (rAll36_spec W (by omega)).mono ?_
      rintro _ _ ⟨rfl, rfl⟩
      simp (disch := omega) only [push_cast, simprocAttr, wrap_i64, toNat_ofInt64, Nat.min_eq_left, Int.toNat_of_nonneg]
      refine (hsA _).mono ?_
      rintro _ _ ⟨rfl, rfl⟩
      simp (disch := omega) only [push_cast, simprocAttr, wrap_i64, toNat_ofInt64, Nat.min_eq_left, Int.toNat_of_nonneg]
      refine (Len_spec hx).mono ?_
      rintro _ _ ⟨rfl, rfl⟩
      simp (disch := omega) only [push_cast, simprocAttr, wrap_i64, toNat_ofInt64, Nat.min_eq_left, Int.toNat_of_nonneg]
      refine (rIds36_spec W (by omega)).mono ?_
      rintro _ _ ⟨rfl, rfl⟩
      simp (disch := omega) only [push_cast, simprocAttr, wrap_i64, toNat_ofInt64, Nat.min_eq_left, Int.toNat_of_nonneg, hbb]
      exact hq _ _ rfl rfl rfl rfl hx
    · simp (disch := omega) only [push_cast, simprocAttr, wrap_i64, toNat_ofInt64, Nat.min_eq_left, Int.toNat_of_nonneg, h6, h5]
      refine (hH _ hx).mono ?_
      rintro _ _ ⟨rfl, rfl⟩
      simp (disch := omega) only [push_cast, simprocAttr, wrap_i64, toNat_ofInt64, Nat.min_eq_left, Int.toNat_of_nonneg]
      refine (hh _).mono ?_
      rintro _ _ ⟨rfl, rfl⟩
      simp (disch := omega) only [push_cast, simprocAttr, wrap_i64, toNat_ofInt64, Nat.min_eq_left, Int.toNat_of_nonneg]
      refine (hsH _).mono ?_
      rintro _ _ ⟨rfl, rfl⟩
      simp (disch := omega) only [push_cast, simprocAttr, wrap_i64, toNat_ofInt64, Nat.min_eq_left, Int.toNat_of_nonneg, h5]
      refine (Pages_spec hx s.id (by omega)).mono ?_
      rintro _ _ ⟨rfl, rfl⟩
      simp (disch := omega) only [push_cast, simprocAttr, wrap_i64, toNat_ofInt64, Nat.min_eq_left, Int.toNat_of_nonneg]
      refine (rPages36_spec W s.id (by omega)).mono ?_
      rintro _ _ ⟨rfl, rfl⟩
      simp (disch := omega) only [push_cast, simprocAttr, wrap_i64, toNat_ofInt64, Nat.min_eq_left, Int.toNat_of_nonneg]
      refine (hsP _).mono ?_
      rintro _ _ ⟨rfl, rfl⟩
      simp (disch := omega) only [push_cast, simprocAttr, wrap_i64, toNat_ofInt64, Nat.min_eq_left, Int.toNat_of_nonneg]
      refine (Of_spec hx 0 (by omega)).mono ?_
      rintro _ _ ⟨rfl, rfl⟩
      simp (disch := omega) only [push_cast, simprocAttr, wrap_i64, toNat_ofInt64, Nat.min_eq_left, Int.toNat_of_nonneg]
      refine (rOf36_spec W 0 (by omega)).mono ?_
      rintro _ _ ⟨rfl, rfl⟩
      simp (disch := omega) only [push_cast, simprocAttr, wrap_i64, toNat_ofInt64, Nat.min_eq_left, Int.toNat_of_nonneg]
      refine (hsO _ _).mono ?_
      rintro _ _ ⟨rfl, rfl⟩
      simp (disch := omega) only [push_cast, simprocAttr, wrap_i64, toNat_ofInt64, Nat.min_eq_left, Int.toNat_of_nonneg]
      refine (All_spec hx (by omega)).mono ?_
      rintro _ _ ⟨rfl, rfl⟩
      simp (disch := omega) only [push_cast, simprocAttr, wrap_i64, toNat_ofInt64, Nat.min_eq_left, Int.toNat_of_nonneg]
      refine (rAll36_spec W (by omega)).mono ?_
      rintro _ _ ⟨rfl, rfl⟩
      simp (disch := omega) only [push_cast, simprocAttr, wrap_i64, toNat_ofInt64, Nat.min_eq_left, Int.toNat_of_nonneg]
      refine (hsA _).mono ?_
      rintro _ _ ⟨rfl, rfl⟩
      simp (disch := omega) only [push_cast, simprocAttr, wrap_i64, toNat_ofInt64, Nat.min_eq_left, Int.toNat_of_nonneg]
      refine (Len_spec hx).mono ?_
      rintro _ _ ⟨rfl, rfl⟩
      simp (disch := omega) only [push_cast, simprocAttr, wrap_i64, toNat_ofInt64, Nat.min_eq_left, Int.toNat_of_nonneg]
      refine (rIds36_spec W (by omega)).mono ?_
      rintro _ _ ⟨rfl, rfl⟩
      simp (disch := omega) only [push_cast, simprocAttr, wrap_i64, toNat_ofInt64, Nat.min_eq_left, Int.toNat_of_nonneg, hbb]
      exact hq _ _ rfl rfl rfl rfl hx
theorem lawPlay_spec (l : List ISp) (hok : ∀ s ∈ l, s.ok) : Spec Try.prog G 4 [sps l] noH (Is (.bool true) noH) := by
  refine lawQ ?_
  refine Spec.walk C4ok rfl ?_
  by_cases h1 : (l.length : Int) > 60
  · simp only [push_cast, simprocAttr, h1]
    refine awake36_spec.mono ?_
    rintro _ _ ⟨rfl, _⟩
    simp only [push_cast, simprocAttr]
  simp only [push_cast, simprocAttr, h1]
  refine New36_spec.mono ?_
  rintro _ h0 ⟨px, rfl, hx⟩
  simp only [push_cast, simprocAttr]
  refine lpc.rel [0, 3, 4, 5] (fun m ρ h' => ∃ k : Nat, m = l.length - k ∧ k ≤ l.length ∧ IdxAt h' px (plW (l.take k)) ∧ (plW (l.take k)).length ≤ 20 * k ∧
    ρ = [(0, sps l), (3, .ptr px 0), (4, prs (plW (l.take k))), (5, .int .i64 (k : Int))]) ⟨_, 0, rfl, by omega, hx, by simp [plW], rfl⟩ ?_
  rintro m _ h2' ⟨k, rfl, hk, hx2, hln, rfl⟩
  by_cases hk2 : k < l.length
  · obtain ⟨e0, e1, e2, e3, e4⟩ := sps_at l hk2
    have hs := hok _ (getD_in (d := ISp.zero) hk2)
    have hsn := plW_snoc (l.take k) (l.getD k ISp.zero)
    rw [← take_snoc l ISp.zero hk2] at hsn
    generalize l.getD k ISp.zero = s at *
    have hB := fun (W : List (Int × Int)) (H : Heap) Q hx hl hq hr => play_body (G := G) (l := l) (s := s) (W := W) (px := px) (k := k) (H := H) (Q := Q) hx hl hq hr
    show wpc _ _ _ (.seq [0, 3, 4, 5] C4_11 (.seq [0, 3, 4, 5] (.block 1 (.seq [0, 3, 4, 5, 6] C4_12 (.fz 6 (.seq [0, 3, 4, 5, 6] C4_17 (.seq [0, 3, 4, 5, 6] C4_36 C4_54))))) C4_60)) _ _ _
    generalize C4_54 = Y at hB ⊢
    by_cases h3 : (s.pages.length : Int) > 20
    · simp (disch := omega) only [push_cast, simprocAttr, wrap_i64, toNat_ofInt64, Nat.min_eq_left, Int.toNat_of_nonneg, hk2, e4, h3]
      intro b hb
      rw [era_none hb]
      try simp (disch := omega) only [push_cast, simprocAttr, wrap_i64, toNat_ofInt64, Nat.min_eq_left, Int.toNat_of_nonneg, h3]
      refine awake36_spec.mono ?_
      rintro _ _ ⟨rfl, _⟩
      simp only [push_cast, simprocAttr]
    · by_cases h4 : s.kind = 1
      · rw [if_pos h4] at hsn
        have hln2 := addP_len (i := s.id) (ps := s.pages) (W := plW (l.take k))
        simp (disch := omega) only [push_cast, simprocAttr, wrap_i64, toNat_ofInt64, Nat.min_eq_left, Int.toNat_of_nonneg, hk2, e4, h3, h4]
        intro b hb
        rw [era_none hb]
        try simp (disch := omega) only [push_cast, simprocAttr, wrap_i64, toNat_ofInt64, Nat.min_eq_left, Int.toNat_of_nonneg, h3, h4]
        refine (Add_spec hx2 hs.1 hs.2 (by omega)).mono ?_
        rintro _ h3' ⟨rfl, hx3⟩
        simp (disch := omega) only [push_cast, simprocAttr, wrap_i64, toNat_ofInt64, Nat.min_eq_left, Int.toNat_of_nonneg, h3, h4]
        refine (rAdd36_spec _ _ _ (by omega) (by omega)).mono ?_
        rintro _ _ ⟨rfl, rfl⟩
        simp (disch := omega) only [push_cast, simprocAttr, wrap_i64, toNat_ofInt64, Nat.min_eq_left, Int.toNat_of_nonneg, h3, h4]
        refine hB (addP (plW (l.take k)) s.id s.pages) _ _ hx3 (by omega) (fun ρ H' l0 l3 l4 l5 hx5 => ?_) (fun ρ H' l2 => ?_)
        · simp (disch := omega) only [push_cast, simprocAttr, wrap_i64, toNat_ofInt64, Nat.min_eq_left, Int.toNat_of_nonneg, l0, l3, l4, l5]
          exact ⟨_, _, by omega, .refl _, k + 1, rfl, by omega, by rw [hsn]; exact hx5, by rw [hsn]; omega, by rw [hsn]; rfl⟩
        · simp (disch := omega) only [push_cast, simprocAttr, wrap_i64, toNat_ofInt64, Nat.min_eq_left, Int.toNat_of_nonneg, l2]
      · rw [if_neg h4] at hsn
        by_cases h5 : s.kind = 2
        · rw [if_pos h5] at hsn
          have hdl : (dropP (plW (l.take k)) s.id).length ≤ (plW (l.take k)).length := List.length_filter_le _ _
          have hbe : ∀ n : Nat, decide (0 < n) = decide ((n : Int) > 0) := fun n => by rw [decide_eq_decide]; omega
          simp (disch := omega) only [push_cast, simprocAttr, wrap_i64, toNat_ofInt64, Nat.min_eq_left, Int.toNat_of_nonneg, hk2, e4, h3, h4, h5]
          intro b hb
          rw [era_none hb]
          try simp (disch := omega) only [push_cast, simprocAttr, wrap_i64, toNat_ofInt64, Nat.min_eq_left, Int.toNat_of_nonneg, h3, h4, h5]
          refine (Drop_spec hx2 s.id (by omega)).mono ?_
          rintro _ h3' ⟨rfl, hx3⟩
          simp (disch := omega) only [push_cast, simprocAttr, wrap_i64, toNat_ofInt64, Nat.min_eq_left, Int.toNat_of_nonneg, h3, h4, h5]
          refine (rPages36_spec (plW (l.take k)) s.id (by omega)).mono ?_
          rintro _ _ ⟨rfl, rfl⟩
          simp (disch := omega) only [push_cast, simprocAttr, wrap_i64, toNat_ofInt64, Nat.min_eq_left, Int.toNat_of_nonneg, h3, h4, h5]
          refine ⟨fun hn => absurd (hbe _) hn, fun _ => (rDrop36_spec (plW (l.take k)) s.id (by omega)).mono ?_⟩
          rintro _ _ ⟨rfl, rfl⟩
          simp (disch := omega) only [push_cast, simprocAttr, wrap_i64, toNat_ofInt64, Nat.min_eq_left, Int.toNat_of_nonneg, h3, h4, h5]
          refine hB (dropP (plW (l.take k)) s.id) _ _ hx3 (by omega) (fun ρ H' l0 l3 l4 l5 hx5 => ?_) (fun ρ H' l2 => ?_)
          · simp (disch := omega) only [push_cast, simprocAttr, wrap_i64, toNat_ofInt64, Nat.min_eq_left, Int.toNat_of_nonneg, l0, l3, l4, l5]
            exact ⟨_, _, by omega, .refl _, k + 1, rfl, by omega, by rw [hsn]; exact hx5, by rw [hsn]; omega, by rw [hsn]; rfl⟩
          · simp (disch := omega) only [push_cast, simprocAttr, wrap_i64, toNat_ofInt64, Nat.min_eq_left, Int.toNat_of_nonneg, l2]
        · rw [if_neg h5] at hsn
          simp (disch := omega) only [push_cast, simprocAttr, wrap_i64, toNat_ofInt64, Nat.min_eq_left, Int.toNat_of_nonneg, hk2, e4, h3, h4, h5]
          intro b hb
          rw [era_none hb]
          try simp (disch := omega) only [push_cast, simprocAttr, wrap_i64, toNat_ofInt64, Nat.min_eq_left, Int.toNat_of_nonneg, h3, h4, h5]
          refine hB (plW (l.take k)) _ _ hx2 (by omega) (fun ρ H' l0 l3 l4 l5 hx5 => ?_) (fun ρ H' l2 => ?_)
          · simp (disch := omega) only [push_cast, simprocAttr, wrap_i64, toNat_ofInt64, Nat.min_eq_left, Int.toNat_of_nonneg, l0, l3, l4, l5]
            exact ⟨_, _, by omega, .refl _, k + 1, rfl, by omega, by rw [hsn]; exact hx5, by rw [hsn]; omega, by rw [hsn]; rfl⟩
          · simp (disch := omega) only [push_cast, simprocAttr, wrap_i64, toNat_ofInt64, Nat.min_eq_left, Int.toNat_of_nonneg, l2]
  · obtain rfl : k = l.length := by omega
    simp only [push_cast, simprocAttr, hk2]
    refine awake36_spec.mono ?_
    rintro _ _ ⟨rfl, _⟩
    simp only [push_cast, simprocAttr]
end Go.Ab
