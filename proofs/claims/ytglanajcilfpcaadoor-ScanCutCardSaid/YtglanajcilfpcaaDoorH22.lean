/- The laws of scan: rows, paths, and rows that begin paths. -/
import Derived.Test.YtglanajcilfpcaaDoorH21
set_option linter.unusedSimpArgs false
set_option linter.unusedVariables false
set_option maxRecDepth 10000
namespace Go.Ab
open Go.Proofs
variable {G : Glo} {h : Heap}
theorem walk_most (f M) (pc : BitVec 32) (T : List Bool) (most : Int) : (walkN f M (min most 32).toNat pc T).length ≤ 32 := by
  have := walk_len f M (min most 32).toNat pc T
  omega
theorem args_nils (a b c d : AV) : ArgsLe h [a, b, .nils, c, d] [a, b, .ro (bos []) 0, c, d] := .cons (.refl _ _) (.cons (.refl _ _) (.cons (ArgLe.nils _) (.cons (.refl _ _) (.cons (.refl _ _) .nil))))
theorem args_nils4 (a b c : AV) : ArgsLe h [a, b, .nils, c] [a, b, .ro (bos []) 0, c] := .cons (.refl _ _) (.cons (.refl _ _) (.cons (ArgLe.nils _) (.cons (.refl _ _) .nil)))
theorem mem_sub {M : IRam} {l : Pl} {H : Heap} (hnew : ∀ c, l.has c → h c = none) (hold : ∀ c, ¬ l.has c → H c = h c) : Sub h H := fun c x hx => by
  rw [hold c (fun e => by rw [hnew c e] at hx; cases hx)]; exact hx
theorem lawRows_spec (hG : GF G) (b : List (BitVec 8)) (pc : BitVec 32) (most : Int) : Spec Tryd.prog G 3 [byt b, .int .u32 pc.toNat, .int .i64 most] h (Is (.bool true) h) := by
  have hR := fun H : Heap => right10_spec (G := G) (h := H) b.length
  have hA := fun H : Heap => awake26_spec (G := G) (h := H) hG
  cases hr : rightN b.length with
  | false =>
    rw [hr] at hR
    refine Spec.is C3ok rfl ?_
    simp only [push_cast, simprocAttr]
    refine (hR _).to ?_
    simp only [push_cast, simprocAttr]
    refine (hA _).to ?_
    simp only [push_cast, simprocAttr]
  | true =>
    rw [hr] at hR
    by_cases hl : b.length ≤ 1024
    · have zl : ((b.length : Int) > 1024) = False := by simp; omega
      obtain ⟨L, hL⟩ : ∃ L, walkN rowOn (memN b) (min most 32).toNat pc [] = L := ⟨_, rfl⟩
      have hlen : L.length ≤ 32 := by rw [← hL]; exact walk_most _ _ _ _ _
      have hRow := fun (H : Heap) (l : Pl) (hr : RamAt H l (memN b)) => Row_spec hG hr pc most
      have hRef : ∀ H : Heap, Spec Tryd.prog G 14 [byt b, .int .u32 pc.toNat, .nils, .int .i64 most, .bool true] H (Is (.ro (its L) L.length) H) := fun H => by
        have := rPath_spec (G := G) (h := H) (memN b) (show b.length ≤ 65536 by omega) true [] pc most
        rw [show onN true = rowOn from rfl, hL] at this
        exact this.args (args_nils _ _ _ _)
      rw [hL] at hRow
      clear hL
      refine Spec.is C3ok rfl ?_
      simp only [push_cast, simprocAttr]
      refine (hR _).to ?_
      simp only [push_cast, simprocAttr, zl]
      refine (memory_spec b hr).mono ?_
      rintro _ H ⟨l, rfl, hra, hnew, hold⟩
      simp only [push_cast, simprocAttr]
      refine (hRow _ l hra).to ?_
      simp only [push_cast, simprocAttr]
      refine (Of_spec L (by omega)).to ?_
      simp only [push_cast, simprocAttr]
      refine (hRef _).to ?_
      simp only [push_cast, simprocAttr]
      refine (Same_spec L (by omega)).to ?_
      simp only [push_cast, simprocAttr]
      refine (Row_nil hG pc most).to ?_
      simp only [push_cast, simprocAttr]
      refine (hA _).to ?_
      simp only [push_cast, simprocAttr]
      exact mem_sub (M := memN b) hnew hold
    · have zl : ((b.length : Int) > 1024) = True := by simp; omega
      refine Spec.is C3ok rfl ?_
      simp only [push_cast, simprocAttr]
      refine (hR _).to ?_
      simp only [push_cast, simprocAttr, zl]
      refine (hA _).to ?_
      simp only [push_cast, simprocAttr]
/-- A way: an address, turns, and at most how many items. -/
structure IWay where
  pc : BitVec 32
  T : List Bool
  most : Int
def IWay.cells (w : IWay) : List AV := [.int .u32 (w.pc.toNat : Int), .ro (bos w.T) w.T.length, .int .i64 w.most]
theorem lawPaths_spec (hG : GF G) (b : List (BitVec 8)) (w : IWay) : Spec Tryd.prog G 4 [byt b, .agg w.cells] h (Is (.bool true) h) := by
  obtain ⟨pc, T, most⟩ := w
  have hR := fun H : Heap => right10_spec (G := G) (h := H) b.length
  have hA := fun H : Heap => awake26_spec (G := G) (h := H) hG
  cases hr : rightN b.length with
  | false =>
    rw [hr] at hR
    refine Spec.is C4ok rfl ?_
    simp only [push_cast, simprocAttr, IWay.cells]
    refine (hR _).to ?_
    simp only [push_cast, simprocAttr]
    refine (hA _).to ?_
    simp only [push_cast, simprocAttr]
  | true =>
    rw [hr] at hR
    by_cases hl : b.length ≤ 1024
    · have zl : ((b.length : Int) > 1024) = False := by simp; omega
      by_cases ht : T.length ≤ 100
      · have zt : ((T.length : Int) > 100) = False := by simp; omega
        obtain ⟨L, hL⟩ : ∃ L, walkN pathOn (memN b) (min most 32).toNat pc T = L := ⟨_, rfl⟩
        have hlen : L.length ≤ 32 := by rw [← hL]; exact walk_most _ _ _ _ _
        have hRow := fun (H : Heap) (l : Pl) (hr : RamAt H l (memN b)) => Path_spec hG hr pc T most
        have hRef : ∀ H : Heap, Spec Tryd.prog G 14 [byt b, .int .u32 pc.toNat, .ro (bos T) T.length, .int .i64 most, .bool false] H (Is (.ro (its L) L.length) H) := fun H => by
          have := rPath_spec (G := G) (h := H) (memN b) (show b.length ≤ 65536 by omega) false T pc most
          rw [show onN false = pathOn from rfl, hL] at this
          exact this
        rw [hL] at hRow
        clear hL
        refine Spec.is C4ok rfl ?_
        simp only [push_cast, simprocAttr, IWay.cells]
        refine (hR _).to ?_
        simp only [push_cast, simprocAttr, zl, zt]
        refine (memory_spec b hr).mono ?_
        rintro _ H ⟨l, rfl, hra, hnew, hold⟩
        simp only [push_cast, simprocAttr]
        refine (hRow _ l hra).to ?_
        simp only [push_cast, simprocAttr]
        refine (Of_spec L (by omega)).to ?_
        simp only [push_cast, simprocAttr]
        refine (hRef _).to ?_
        simp only [push_cast, simprocAttr]
        refine (Same_spec L (by omega)).to ?_
        simp only [push_cast, simprocAttr]
        refine (Path_nil hG pc T most).to ?_
        simp only [push_cast, simprocAttr]
        refine (hA _).to ?_
        simp only [push_cast, simprocAttr]
        exact mem_sub (M := memN b) hnew hold
      · have zt : ((T.length : Int) > 100) = True := by simp; omega
        refine Spec.is C4ok rfl ?_
        simp only [push_cast, simprocAttr, IWay.cells]
        refine (hR _).to ?_
        simp only [push_cast, simprocAttr, zl, zt]
        refine (hA _).to ?_
        simp only [push_cast, simprocAttr]
    · have zl : ((b.length : Int) > 1024) = True := by simp; omega
      refine Spec.is C4ok rfl ?_
      simp only [push_cast, simprocAttr, IWay.cells]
      refine (hR _).to ?_
      simp only [push_cast, simprocAttr, zl]
      refine (hA _).to ?_
      simp only [push_cast, simprocAttr]
theorem lawCut_spec (hG : GF G) (b : List (BitVec 8)) (pc : BitVec 32) : Spec Tryd.prog G 5 [byt b, .int .u32 pc.toNat] h (Is (.bool true) h) := by
  have hR := fun H : Heap => right10_spec (G := G) (h := H) b.length
  have hA := fun H : Heap => awake26_spec (G := G) (h := H) hG
  cases hr : rightN b.length with
  | false =>
    rw [hr] at hR
    refine Spec.is C5ok rfl ?_
    simp only [push_cast, simprocAttr]
    refine (hR _).to ?_
    simp only [push_cast, simprocAttr]
    refine (hA _).to ?_
    simp only [push_cast, simprocAttr]
  | true =>
    rw [hr] at hR
    by_cases hl : b.length ≤ 1024
    · have zl : ((b.length : Int) > 1024) = False := by simp; omega
      have hRow := fun (H : Heap) (l : Pl) (hr : RamAt H l (memN b)) => Row_spec hG hr pc 32
      have hPath : ∀ (H : Heap) (l : Pl), RamAt H l (memN b) → Spec Tryd.prog G 15 [.ptr l.p 0, .int .u32 pc.toNat, .nils, .int .i64 32] H (Is (.ro (its (walkN pathOn (memN b) (min (32 : Int) 32).toNat pc [])) (walkN pathOn (memN b) (min (32 : Int) 32).toNat pc []).length) H) := fun H l hr =>
        (Path_spec hG hr pc [] 32).args (args_nils4 _ _ _)
      obtain ⟨t, h1, h2⟩ := row_path (memN b) (min (32 : Int) 32).toNat pc
      have hlen := walk_most pathOn (memN b) pc [] 32
      rw [h1] at hlen hPath
      generalize walkN rowOn (memN b) (min (32 : Int) 32).toNat pc [] = L at *
      clear h1
      rw [List.length_append] at hlen
      have zg : ((L.length : Int) > ((L ++ t).length : Int)) = False := by simp; omega
      have zm : min (L.length : Int) ((L ++ t).length : Int) = (L.length : Int) := by simp; omega
      have htk : (its (L ++ t)).take (L.length * 8) = its L := by
        rw [its_take _ _ (by simp), List.take_left]
      have zn : (if (L.length : Int) > ((L ++ t).length : Int) then ((L ++ t).length : Int) else (L.length : Int)) = (L.length : Int) := by rw [if_neg (by rw [zg]; exact fun e => e)]
      have ll : (L ++ t).length = L.length + t.length := List.length_append
      have zc : ((L ++ t).length < L.length) = False := by simp
      have zd : ((L.length : Int) ≤ ((L ++ t).length : Int)) = True := by simp; omega
      refine Spec.is C5ok rfl ?_
      simp only [push_cast, simprocAttr]
      refine (hR _).to ?_
      simp only [push_cast, simprocAttr, zl]
      refine (memory_spec b hr).mono ?_
      rintro _ H ⟨l, rfl, hra, hnew, hold⟩
      have hsub := mem_sub (M := memN b) hnew hold
      simp only [push_cast, simprocAttr]
      refine (hRow _ l hra).to ?_
      simp only [push_cast, simprocAttr]
      refine (hPath _ l hra).to ?_
      simp only [push_cast, simprocAttr, zg]
      refine ⟨by omega, (Of_spec L (by omega)).to ?_⟩
      simp only [push_cast, simprocAttr, htk, zc, zd, zg]
      refine (Of_spec L (by omega)).to ?_
      simp only [push_cast, simprocAttr, htk, zc, zd, zg]
      refine (Same_spec L (by omega)).to ?_
      rcases h2 with rfl | ⟨a, x, rfl, hx⟩
      · have ze : ((L.length : Int) == ((L ++ []).length : Int)) = true := by simp
        simp only [push_cast, simprocAttr, ze]
        refine (hA _).to ?_
        simp only [push_cast, simprocAttr]
        exact hsub
      · by_cases hz : t.length = 0
        · have ze : (((a ++ [x]).length : Int) == ((a ++ [x] ++ t).length : Int)) = true := by rw [beq_iff_eq]; omega
          simp only [push_cast, simprocAttr, ze]
          refine (hA _).to ?_
          simp only [push_cast, simprocAttr]
          exact hsub
        · have ze : (((a ++ [x]).length : Int) == ((a ++ [x] ++ t).length : Int)) = false := by rw [beq_eq_false_iff_ne]; omega
          have la : (a ++ [x]).length = a.length + 1 := by simp
          have zs : (((a ++ [x]).length : Int) > 0) = True := by rw [la]; simp only [eq_iff_iff, iff_true]; omega
          have zw : IntKind.i64.wrap (((a ++ [x]).length : Int) - 1) = (a.length : Int) := by rw [la, wrap_i64 (by omega) (by omega)]; simp
          have zx : (its (a ++ [x]))[a.length * 8 + 1]? = some (.int .i64 3) := by
            rw [its_1, if_pos (by omega)]; simp [hx]
          simp only [push_cast, simprocAttr, ze, zs, zw, zx]
          refine ⟨by omega, (hA _).to ?_⟩
          simp only [push_cast, simprocAttr]
          exact hsub
    · have zl : ((b.length : Int) > 1024) = True := by simp; omega
      refine Spec.is C5ok rfl ?_
      simp only [push_cast, simprocAttr]
      refine (hR _).to ?_
      simp only [push_cast, simprocAttr, zl]
      refine (hA _).to ?_
      simp only [push_cast, simprocAttr]
end Go.Ab
