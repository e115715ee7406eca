/- The laws of eval: the program's memory of a world. -/
import Derived.Test.YtjaknpophnolmaaE10
set_option linter.unusedSimpArgs false
set_option linter.unusedVariables false
set_option maxRecDepth 10000
namespace Go.Ab
open Go.Proofs
variable {G : Glo} {h : Heap}
@[push_cast] theorem abin_and_u16 (a b : Int) : abin .and (.int .u16 a) (.int .u16 b) = some (.int .u16 ((BitVec.ofInt 16 a &&& BitVec.ofInt 16 b).toNat : Int)) := by
  show (if IntKind.u16 = IntKind.u16 then some (AV.int .u16 (IntKind.u16.wrap ((BitVec.ofInt 16 a &&& BitVec.ofInt 16 b).toNat : Int))) else none) = _
  rw [if_pos rfl, wr_u16, ofInt_toNat, BitVec.setWidth_eq]
def wdW (w : BitVec 16) (n k : Nat) : List Bool := (List.range n).map fun i => decide (i < k) && w.getLsbD i
def wdB (w : IWd) (n : Nat) : List (BitVec 8) := w.b ++ List.replicate (n - w.b.length) 0
def wdM (w : IWd) (n k : Nat) : IRam := ⟨wdB w n, wdW w.w (n / 64) k, List.replicate (n / 64) 0⟩
theorem wdW_len (w : BitVec 16) (n k : Nat) : (wdW w n k).length = n := by simp [wdW]
theorem wdW_0 (w : BitVec 16) (n : Nat) : wdW w n 0 = List.replicate n false := by
  apply List.ext_getElem?
  intro i
  simp [wdW, List.getElem?_replicate]
  split <;> simp [*]
theorem wdW_S (w : BitVec 16) (n k : Nat) : wdW w n (k + 1) = if w.getLsbD k then (wdW w n k).set k true else wdW w n k := by
  apply List.ext_getElem?
  intro i
  by_cases hi : i < n
  · by_cases hb : w.getLsbD k = true
    · rw [if_pos hb, List.getElem?_set]
      by_cases e : k = i
      · subst e; simp [wdW, hi, hb]
      · rw [if_neg e]
        have : (i < k + 1) ↔ i < k := by omega
        simp [wdW, hi, this]
    · rw [if_neg hb]
      by_cases e : k = i
      · subst e; simp [wdW, hi, hb]
      · have : (i < k + 1) ↔ i < k := by omega
        simp [wdW, hi, this]
  · rw [List.getElem?_eq_none (by simp [wdW]; omega), List.getElem?_eq_none (by split <;> simp [wdW] <;> omega)]
theorem wd_fill {w : IWd} {n : Nat} (hn : rightN n = true) (hb : w.b.length ≤ n) : fillE (IRam.new n).b.length 2147483648#32 w.b.length = 0 ∧ (IRam.new n).fill 2147483648#32 w.b = wdM w n 0 := by
  simp only [rightN, Bool.and_eq_true, decide_eq_true_eq] at hn
  have hl : (IRam.new n).b.length = n := by simp [IRam.new]
  have ha : (2147483648#32).toNat = 2147483648 := rfl
  have hM : wdM w n 0 = ⟨wdB w n, List.replicate (n / 64) false, List.replicate (n / 64) 0⟩ := by rw [wdM, wdW_0]
  rw [hl, hM]
  by_cases h0 : w.b.length = 0
  · refine ⟨by rw [fillE, if_pos h0], ?_⟩
    rw [IRam.fill, if_neg (fun q => q.1 h0)]
    have : w.b = [] := List.length_eq_zero_iff.1 h0
    simp [IRam.new, wdB, this]
  · have hh : hasN n 2147483648#32 w.b.length = true := by simp only [hasN, Bool.and_eq_true, decide_eq_true_eq, ha]; omega
    refine ⟨by rw [fillE, if_neg h0, if_pos hh], ?_⟩
    rw [IRam.fill, hl, if_pos ⟨h0, hh⟩, ha]
    simp [IRam.put, IRam.new, wdB]
/-- A memory that a function makes. -/
def MemTo (h : Heap) (M : IRam) (r : AV) (h' : Heap) : Prop := ∃ l : Pl, r = .ptr l.p 0 ∧ RamAt h' l M ∧ (∀ c, l.has c → h c = none) ∧ ∀ c, ¬ l.has c → h' c = h c
theorem bit16 (w : BitVec 16) (k : Nat) : ((w >>> k &&& 1#16).toNat : Int) = (if w.getLsbD k then 1 else 0) := by
  have : w >>> k &&& 1#16 = if w.getLsbD k then 1#16 else 0#16 := by
    ext i hi
    simp
    by_cases e : i = 0
    · subst e; split <;> simp_all
    · split <;> simp [e] <;> intro h1 <;> omega
  rw [this]
  split <;> rfl
theorem Memory_spec {w : IWd} {n : Nat} (hl : w.regs.length = 32) (hs : w.size = n) (hn : rightN n = true) (hb : w.b.length ≤ n) :
    Spec Try.prog G 12 [.agg w.cells] h (MemTo h (wdM w n 16)) := by
  obtain ⟨w0, w32, w33, w34, wr⟩ := wd_at hl
  rw [hs] at w32
  obtain ⟨f1, f2⟩ := wd_fill hn hb
  have hn' := hn
  simp only [rightN, Bool.and_eq_true, decide_eq_true_eq] at hn'
  refine Spec.walk C12ok rfl ?_
  simp only [push_cast, simprocAttr, w32, w33, w34, wr, w0]
  refine (New_spec n hn).mono ?_
  rintro _ H ⟨l, rfl, hr, hnew, hold⟩
  simp only [push_cast, simprocAttr, w32, w33, w34, wr, w0]
  refine (Fill_spec hr 2147483648#32 w.b (by omega)).mono ?_
  rw [f1, f2]
  rintro _ H2 ⟨rfl, hr2, hold2⟩
  simp only [push_cast, simprocAttr, w32, w33, w34, wr, w0]
  refine lpc.rel [1, 3, 5] (fun m ρ h' => ∃ k : Nat, m = 16 - k ∧ k ≤ 16 ∧ RamAt h' l (wdM w n k) ∧ (∀ c, ¬ l.has c → h' c = h c) ∧
    ρ = [(1, .cp w.cells 0), (3, .ptr l.p 0), (5, .int .i64 (k : Int))]) ⟨_, 0, rfl, by omega, hr2, fun c hc => by rw [hold2 c hc, hold c hc], rfl⟩ ?_
  rintro m _ H3 ⟨k, rfl, hk, hr3, hold3, rfl⟩
  have hbit := bit16 w.w k
  have hS := wdW_S w.w (n / 64) k
  have hm : min (BitVec.ofInt 64 (k : Int)).toNat 16 = k := by
    rw [BitVec.ofInt_natCast, BitVec.toNat_ofNat, Nat.mod_eq_of_lt (by omega)]; omega
  have hlen : (wdM w n k).b.length = n := by simp [wdM, wdB]; omega
  simp only [push_cast, simprocAttr, w32, w33, w34, wr, w0, hm, hbit]
  refine ⟨fun hk2 => ⟨fun q => ?_, fun q => ?_⟩, fun hk2 => ?_⟩
  · have q' : w.w.getLsbD k = true := by
      cases e : w.w.getLsbD k
      · rw [e] at q; simp at q
      · rfl
    refine (Watch_spec hr3 k (by omega)).mono ?_
    rintro _ H4 ⟨rfl, hr4, hold4⟩
    simp (disch := omega) only [push_cast, simprocAttr, wrap_i64, toNat_ofInt64, Nat.min_eq_left, Int.toNat_of_nonneg]
    refine ⟨_, _, by omega, .refl _, k + 1, rfl, by omega, ?_, fun c hc => by rw [hold4 c hc, hold3 c hc], rfl⟩
    have : wdM w n (k + 1) = { wdM w n k with w := (wdM w n k).w.set k true } := by
      simp only [wdM, hS, q', if_true]
    rw [this]
    exact hr4
  · have q' : w.w.getLsbD k = false := by
      cases e : w.w.getLsbD k
      · rfl
      · rw [e] at q; simp at q
    simp (disch := omega) only [push_cast, simprocAttr, wrap_i64, toNat_ofInt64, Nat.min_eq_left, Int.toNat_of_nonneg]
    refine ⟨_, _, by omega, .refl _, k + 1, rfl, by omega, ?_, hold3, rfl⟩
    have : wdM w n (k + 1) = wdM w n k := by
      simp only [wdM, hS, q', Bool.false_eq_true, if_false]
    rw [this]
    exact hr3
  · obtain rfl : k = 16 := by omega
    exact ⟨l, rfl, hr3, hnew, hold3⟩
end Go.Ab
