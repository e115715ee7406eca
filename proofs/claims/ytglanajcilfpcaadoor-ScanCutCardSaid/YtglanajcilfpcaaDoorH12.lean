/- Items: what lies at an address. -/
import Derived.Test.YtglanajcilfpcaaDoorH11
import Derived.Test.YtglanajcilfpcaaDoorE16
set_option linter.unusedSimpArgs false
set_option linter.unusedVariables false
set_option maxRecDepth 10000
namespace Go.Ab
open Go.Proofs
variable {G : Glo} {h : Heap}
/-- An instruction at an address, and where it goes on. -/
structure IIt where
  pc : BitVec 32
  i : IIn
  next : BitVec 32
def IIt.cells (x : IIt) : List AV := .int .u32 (x.pc.toNat : Int) :: (x.i.cells ++ [.int .u32 (x.next.toNat : Int)])
def nextN (w pc : BitVec 32) : BitVec 32 := if kindK w = 3 then pc + (decI w).imm else if kindK w = 4 then 0#32 else pc + 4#32
def itemN (w pc : BitVec 32) : IIt := ⟨pc, decI w, nextN w pc⟩
section
variable {l : Pl} {M : IRam}
def wordN (M : IRam) (pc : BitVec 32) : BitVec 32 := if askedN M.b.length pc 4 = 0 then M.load pc 4 else 0#32
theorem at2_spec (hG : GF G) (hr : RamAt h l M) (pc : BitVec 32) : Spec Tryd.prog G 46 [.ptr l.p 0, .int .u32 pc.toNat] h
    (Is (.tup [.agg (itemN (wordN M pc) pc).cells, .bool (decide (askedN M.b.length pc 4 = 0) && canN (wordN M pc) (kindK (wordN M pc)))]) h) := by
  have hL := fun (H : Heap) (hr : RamAt H l M) => Load_spec (G := G) hr pc 4
  rw [show (4 : Int).toNat = 4 from rfl] at hL
  have hw : (if askedN M.b.length pc 4 = 0 then M.load pc 4 else 0#32) = wordN M pc := rfl
  rw [hw] at hL
  generalize wordN M pc = w at *
  generalize askedN M.b.length pc 4 = e at *
  have hD := fun H : Heap => Decode_spec (G := G) (h := H) hG w (kindK_lt w)
  have hC := fun H : Heap => Can_spec (G := G) (h := H) hG w (kindK w) (kindK_lt w)
  rw [← dec_laid] at hC
  have eo : (decI w).op = kindK w := by rw [dec_laid]; rfl
  have hN : nextN w pc = if kindK w = 3 then pc + (decI w).imm else if kindK w = 4 then 0#32 else pc + 4#32 := rfl
  have hI : (itemN w pc).cells = .int .u32 (pc.toNat : Int) :: ((decI w).cells ++ [.int .u32 ((nextN w pc).toNat : Int)]) := rfl
  rw [hI, hN]
  clear hI hN
  generalize canN w (kindK w) = C at *
  generalize kindK w = K at *
  generalize decI w = I at *
  obtain ⟨op, rd, rs1, rs2, imm, csr⟩ := I
  simp only at eo
  subst eo
  have p8 : ∀ a b c d e f g i : AV, partOf [a, b, c, d, e, f, g, i] 0 (some 8) = some (.agg [a, b, c, d, e, f, g, i]) := fun _ _ _ _ _ _ _ _ => rfl
  have p6 : ∀ a b c d e f g i : AV, partOf [a, b, c, d, e, f, g, i] 1 (some 6) = some (.agg [b, c, d, e, f, g]) := fun _ _ _ _ _ _ _ _ => rfl
  refine Spec.is C46ok rfl ?_
  simp only [push_cast, simprocAttr, IIn.cells]
  intro c4 hc4
  refine (hL _ (hr.upd (hr.not hc4))).to ?_
  simp only [push_cast, simprocAttr, IIn.cells]
  refine (hD _).to ?_
  simp only [push_cast, simprocAttr, IIn.cells]
  intro c8 hc8
  obtain ⟨n8, hc8h⟩ := upd_none hc8
  have u8 : ∀ (H : Heap) X, upd H c8 X c4 = H c4 := fun H X => upd_ne (Ne.symm n8)
  have hs : ∀ X Y Z, Sub h (upd (upd (upd h c4 X) c8 Y) c4 Z) := fun X Y Z => (((Sub.refl h).set hc4).set hc8h).set hc4
  clear hc8
  by_cases k3 : K = 3
  · have z3 : ((K : Int) = 3) = True := by simp only [eq_iff_iff, iff_true]; omega
    rw [if_pos k3]
    by_cases he : e = 0
    · have ze : (e == 0) = true := by rw [he]; rfl
      have hd : decide (e = 0) = true := decide_eq_true he
      rw [hd]
      simp only [push_cast, simprocAttr, z3, ze, u8, p8, p6]
      refine (hC _).to ?_
      simp only [push_cast, simprocAttr, z3, ze, u8, p8, p6]
      first | exact hs _ _ _ | exact ⟨rfl, hs _ _ _⟩
    · have ze : (e == 0) = false := by rw [beq_eq_false_iff_ne]; exact he
      have hd : decide (e = 0) = false := decide_eq_false he
      rw [hd]
      simp only [push_cast, simprocAttr, z3, ze, u8, p8, p6]
      first | exact hs _ _ _ | exact ⟨rfl, hs _ _ _⟩
  · have z3 : ((K : Int) = 3) = False := by simp only [eq_iff_iff, iff_false]; omega
    rw [if_neg k3]
    by_cases k4 : K = 4
    · have z4 : ((K : Int) = 4) = True := by simp only [eq_iff_iff, iff_true]; omega
      rw [if_pos k4]
      by_cases he : e = 0
      · have ze : (e == 0) = true := by rw [he]; rfl
        have hd : decide (e = 0) = true := decide_eq_true he
        rw [hd]
        simp only [push_cast, simprocAttr, z3, z4, ze, u8, p8, p6]
        refine (hC _).to ?_
        simp only [push_cast, simprocAttr, z3, z4, ze, u8, p8, p6]
        first | exact hs _ _ _ | exact ⟨rfl, hs _ _ _⟩
      · have ze : (e == 0) = false := by rw [beq_eq_false_iff_ne]; exact he
        have hd : decide (e = 0) = false := decide_eq_false he
        rw [hd]
        simp only [push_cast, simprocAttr, z3, z4, ze, u8, p8, p6]
        first | exact hs _ _ _ | exact ⟨rfl, hs _ _ _⟩
    · have z4 : ((K : Int) = 4) = False := by simp only [eq_iff_iff, iff_false]; omega
      rw [if_neg k4]
      by_cases he : e = 0
      · have ze : (e == 0) = true := by rw [he]; rfl
        have hd : decide (e = 0) = true := decide_eq_true he
        rw [hd]
        simp only [push_cast, simprocAttr, z3, z4, ze, u8, p8, p6]
        refine (hC _).to ?_
        simp only [push_cast, simprocAttr, z3, z4, ze, u8, p8, p6]
        first | exact hs _ _ _ | exact ⟨rfl, hs _ _ _⟩
      · have ze : (e == 0) = false := by rw [beq_eq_false_iff_ne]; exact he
        have hd : decide (e = 0) = false := decide_eq_false he
        rw [hd]
        simp only [push_cast, simprocAttr, z3, z4, ze, u8, p8, p6]
        first | exact hs _ _ _ | exact ⟨rfl, hs _ _ _⟩
end
end Go.Ab
