/- The laws of scan. -/
import Derived.Test.YtglanajcilfpcaaDoorH19
set_option linter.unusedSimpArgs false
set_option linter.unusedVariables false
set_option maxRecDepth 10000
namespace Go.Ab
open Go.Proofs
variable {G : Glo} {h : Heap}
theorem right10_spec (n : Int) : Spec Tryd.prog G 8 [.int .i64 n] h (Is (.bool (rightN n)) h) := by
  have hN : rightN n = (decide (64 ≤ n) && decide (n ≤ 65536) && decide (n % 64 = 0)) := rfl
  generalize rightN n = N at hN ⊢
  refine Spec.is C8ok rfl ?_
  simp only [push_cast, simprocAttr]
  rw [hN]
  by_cases h1 : 64 ≤ n
  · rw [Int.tmod_eq_emod_of_nonneg (by omega)]
    (first | rfl | (congr 1; done) | (congr 1; rw [Bool.eq_iff_iff]; simp only [Bool.and_eq_true, Bool.or_eq_true, Bool.not_eq_true', decide_eq_true_eq, decide_eq_false_iff_not, Bool.false_eq_true, true_and, and_true]; first | omega | grind))
  · have h2 : ¬ n ≥ 64 := h1
    simp [h1, h2]
def exB : List (BitVec 8) := [147#8, 0#8, 160#8, 0#8, 227#8, 158#8, 0#8, 254#8]
def exM : IRam := (IRam.new 64).fill 2147483648#32 exB
def exL : List IIt := [itemN 10485907#32 2147483648#32, itemN 4261453539#32 2147483652#32]
theorem exL_eq : walkN rowOn exM (min (9 : Int) 32).toNat 2147483648#32 [] = exL := by kernel_rfl
theorem exL_0 : exL.length = 2 := rfl
theorem exL_1 : (its exL)[9]? = some (.int .i64 6) := by kernel_rfl
theorem exL_2 : (its exL)[15]? = some (.int .u32 2147483656) := by kernel_rfl
theorem exL_3 : partOf (its exL) 1 (some 6) = some (.agg (laidN 10485907#32 (kindK 10485907#32)).cells) := by kernel_rfl
theorem exL_4 : canN 10485907#32 (kindK 10485907#32) = true := by kernel_rfl
theorem exF : fillE (IRam.new 64).b.length 2147483648#32 exB.length = 0 := by kernel_rfl
theorem awake26_spec (hG : GF G) : Spec Tryd.prog G 9 [] h (Is (.bool true) h) := by
  have hc := fun H : Heap => Can_spec (G := G) (h := H) hG 10485907#32 (kindK 10485907#32) (kindK_lt _)
  rw [exL_4] at hc
  have e1 := exL_0
  have e2 := exL_1
  have e3 := exL_2
  have e4 := exL_3
  have hb : [AV.int .u8 147, .int .u8 0, .int .u8 160, .int .u8 0, .int .u8 227, .int .u8 158, .int .u8 0, .int .u8 254] = bys exB := by kernel_rfl
  refine Spec.is C9ok rfl ?_
  simp only [push_cast, simprocAttr]
  refine (New_spec 64 rfl).mono ?_
  rintro _ H ⟨l, rfl, hr, hnew, hold⟩
  simp only [push_cast, simprocAttr]
  have hF := Fill_spec (G := G) hr 2147483648#32 exB (by decide)
  rw [exF] at hF
  rw [hb]
  refine hF.mono ?_
  rintro _ H2 ⟨rfl, hr2, hold2⟩
  simp only [push_cast, simprocAttr]
  have hR := Row_spec hG hr2 2147483648#32 9
  change Spec _ _ _ _ _ (Is (.ro (its (walkN rowOn exM _ _ _)) (walkN rowOn exM _ _ _).length) _) at hR
  rw [exL_eq] at hR
  have hsub : Sub h H2 := fun c x hx => by
    have : ¬ l.has c := fun e => by rw [hnew c e] at hx; cases hx
    rw [hold2 c this, hold c this]; exact hx
  generalize exL = L at *
  refine hR.to ?_
  simp only [push_cast, simprocAttr, e1, e2, e3, e4]
  refine (hc _).to ?_
  simp only [push_cast, simprocAttr]
  exact hsub
end Go.Ab
