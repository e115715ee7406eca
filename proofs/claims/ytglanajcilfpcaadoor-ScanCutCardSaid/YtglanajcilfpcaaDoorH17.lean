/- Rows and paths: the program's. -/
import Derived.Test.YtglanajcilfpcaaDoorH16
set_option linter.unusedSimpArgs false
set_option linter.unusedVariables false
set_option maxRecDepth 10000
namespace Go.Ab
open Go.Proofs
variable {G : Glo} {h : Heap}
theorem Load_nil (addr : BitVec 32) (n : Int) : Spec Tryd.prog G 70 [.nilp, .int .u32 addr.toNat, .int .i64 n] h (Is (.tup [.int .u32 ((0#32).toNat : Int), .int .i64 2]) h) := by
  refine Spec.is C70ok rfl ?_
  simp only [push_cast, simprocAttr]
  refine (asked_nil addr n).to ?_
  simp only [push_cast, simprocAttr]
theorem dec_0 : decI 0#32 = IIn.zero := by
  have : kindK 0#32 = 0 := by decide
  unfold decI
  rw [if_pos this]
theorem at2_nil (hG : GF G) (pc : BitVec 32) : Spec Tryd.prog G 46 [.nilp, .int .u32 pc.toNat] h
    (Is (.tup [.agg (⟨pc, IIn.zero, pc + 4#32⟩ : IIt).cells, .bool false]) h) := by
  have hD := fun H : Heap => Decode_spec (G := G) (h := H) hG 0#32 (kindK_lt 0#32)
  rw [dec_0] at hD
  have hI : (⟨pc, IIn.zero, pc + 4#32⟩ : IIt).cells = .int .u32 (pc.toNat : Int) :: (IIn.zero.cells ++ [.int .u32 ((pc + 4#32).toNat : Int)]) := rfl
  rw [hI]
  have p8 : ∀ a b c d e f g i : AV, partOf [a, b, c, d, e, f, g, i] 0 (some 8) = some (.agg [a, b, c, d, e, f, g, i]) := fun _ _ _ _ _ _ _ _ => rfl
  have p6 : ∀ a b c d e f g i : AV, partOf [a, b, c, d, e, f, g, i] 1 (some 6) = some (.agg [b, c, d, e, f, g]) := fun _ _ _ _ _ _ _ _ => rfl
  refine Spec.is C46ok rfl ?_
  simp only [push_cast, simprocAttr, IIn.cells]
  intro c4 hc4
  refine (Load_nil _ _).to ?_
  simp only [push_cast, simprocAttr, IIn.cells]
  refine (hD _).to ?_
  simp only [push_cast, simprocAttr, IIn.cells, IIn.zero]
  intro c8 hc8
  obtain ⟨n8, hc8h⟩ := upd_none hc8
  have u8 : ∀ (H : Heap) X, upd H c8 X c4 = H c4 := fun H X => upd_ne (Ne.symm n8)
  have hs : ∀ X Y Z, Sub h (upd (upd (upd h c4 X) c8 Y) c4 Z) := fun X Y Z => (((Sub.refl h).set hc4).set hc8h).set hc4
  clear hc8
  simp only [push_cast, simprocAttr, u8, p8, p6, IIn.cells, IIn.zero]
  first | exact hs _ _ _ | exact ⟨rfl, hs _ _ _⟩
theorem along_nil (hG : GF G) (fn : Nat) (caps : List AV) (pc : BitVec 32) (most : Int) : Spec Tryd.prog G 27 [.nilp, .int .u32 pc.toNat, .int .i64 most, .fn fn [] caps] h (Is .nils h) := by
  have hA := fun H : Heap => at2_nil (G := G) (h := H) hG pc
  refine Spec.is C27ok rfl ?_
  simp only [push_cast, simprocAttr]
  refine lpc.rel [0, 1, 2, 3, 9] (fun m ρ H' => m = 0 ∧ h = H' ∧ ρ = [(0, .nilp), (1, .int .u32 pc.toNat), (2, .int .i64 most), (3, .fn fn [] caps), (9, .nils)]) ⟨0, rfl, rfl, rfl⟩ ?_
  rintro m _ H' ⟨rfl, rfl, rfl⟩
  simp only [push_cast, simprocAttr]
  refine ⟨fun hlt => ?_, fun hge => ?_⟩
  · refine (hA _).to ?_
    generalize (⟨pc, IIn.zero, pc + 4#32⟩ : IIt) = x at *
    have xl := (it_at x).1
    have xs : splice [AV.int .u32 0, .int .i64 0, .int .i64 0, .int .i64 0, .int .i64 0, .int .u32 0, .int .i64 0, .int .u32 0] 0 x.cells = x.cells := splice_all' rfl
    simp only [push_cast, simprocAttr, xl, xs]
    intro c10 hc10
    first | exact (Sub.refl h).set hc10 | exact ⟨rfl, (Sub.refl h).set hc10⟩
  · first | trivial | exact Sub.refl h
section
variable {l : Pl} {M : IRam}
theorem Row_spec (hG : GF G) (hr : RamAt h l M) (pc : BitVec 32) (most : Int) : Spec Tryd.prog G 12 [.ptr l.p 0, .int .u32 pc.toNat, .int .i64 most] h
    (Is (.ro (its (walkN rowOn M (min most 32).toNat pc [])) (walkN rowOn M (min most 32).toNat pc []).length) h) := by
  have ha := along_spec hG rowOn_ok hr (fun _ h => h.elim) (fun _ h => h.elim) [] trivial pc most
  generalize walkN rowOn M (min most 32).toNat pc [] = L at *
  refine Spec.drop ?_
  refine Spec.weak (Q := fun r H' => ∃ g n, n = L.length ∧ Own 8 g r (its L) n H' ∧ Sub h g) ?_ ?_
  · refine Spec.walk C12ok rfl ?_
    simp only [push_cast, simprocAttr]
    refine ha.mono ?_
    rintro r H' ⟨g, n, e, ho, hg⟩
    simp only [push_cast, simprocAttr]
    exact ⟨g, n, e, ho, fun d x hd => by rw [hg d (by rw [hd]; simp) (fun h => h)]; exact hd⟩
  · rintro r H' ⟨g, n, rfl, ho, hs⟩
    exact ⟨_, _, ⟨h, hs, rfl, rfl⟩, ho.freeze⟩
theorem Path_spec (hG : GF G) (hr : RamAt h l M) (pc : BitVec 32) (T : List Bool) (most : Int) : Spec Tryd.prog G 15 [.ptr l.p 0, .int .u32 pc.toNat, .ro (bos T) T.length, .int .i64 most] h
    (Is (.ro (its (walkN pathOn M (min most 32).toNat pc T)) (walkN pathOn M (min most 32).toNat pc T).length) h) := by
  have ha := fun (ct : Nat) (hct : h ct = none) => along_spec hG (pathOn_ok ct) (hr.upd (X := ⟨turnsC T, 0⟩) (hr.not hct)) (fun d e => by subst e; exact hr.not hct) (fun d e => by subst e; rw [upd_same]; simp) T (upd_same _ _ _) pc most
  generalize walkN pathOn M (min most 32).toNat pc T = L at *
  refine Spec.drop ?_
  refine Spec.weak (Q := fun r H' => ∃ g n, n = L.length ∧ Own 8 g r (its L) n H' ∧ Sub h g) ?_ ?_
  · refine Spec.walk C15ok rfl ?_
    simp only [push_cast, simprocAttr]
    intro ct hct
    refine (ha ct hct).mono ?_
    rintro r H' ⟨g, n, e, ho, hg⟩
    simp only [push_cast, simprocAttr]
    exact ⟨g, n, e, ho, fun d x hd => by
      have hne : d ≠ ct := fun e => by rw [e, hct] at hd; cases hd
      rw [hg d (by rw [upd_ne hne, hd]; simp) hne, upd_ne hne]; exact hd⟩
  · rintro r H' ⟨g, n, rfl, ho, hs⟩
    exact ⟨_, _, ⟨h, hs, rfl, rfl⟩, ho.freeze⟩
end
theorem Row_nil (hG : GF G) (pc : BitVec 32) (most : Int) : Spec Tryd.prog G 12 [.nilp, .int .u32 pc.toNat, .int .i64 most] h (Is .nils h) := by
  have ha := fun H : Heap => along_nil (G := G) (h := H) hG 28 [] pc most
  refine Spec.is C12ok rfl ?_
  simp only [push_cast, simprocAttr]
  refine (ha _).to ?_
  simp only [push_cast, simprocAttr]
theorem Path_nil (hG : GF G) (pc : BitVec 32) (T : List Bool) (most : Int) : Spec Tryd.prog G 15 [.nilp, .int .u32 pc.toNat, .ro (bos T) T.length, .int .i64 most] h (Is .nils h) := by
  have ha := fun (H : Heap) ct => along_nil (G := G) (h := H) hG 35 [.ptr ct 0] pc most
  refine Spec.is C15ok rfl ?_
  simp only [push_cast, simprocAttr]
  intro ct hct
  refine (ha _ _).to ?_
  simp only [push_cast, simprocAttr]
  exact (Sub.refl h).set hct
end Go.Ab
