/- Items, copied and held against each other; a memory of bytes. -/
import Derived.Test.YtglanajcilfpcaaDoorH18
set_option linter.unusedSimpArgs false
set_option linter.unusedVariables false
set_option maxRecDepth 10000
namespace Go.Ab
open Go.Proofs
variable {G : Glo} {h : Heap}
def IIt.zero : IIt := ⟨0#32, IIn.zero, 0#32⟩
@[push_cast] theorem IIt.len (x : IIt) : x.cells.length = 8 := rfl
@[push_cast] theorem IIt.sp (x : IIt) (a b c d e f g i : AV) : splice [a, b, c, d, e, f, g, i] 0 x.cells = x.cells := rfl
section
variable (l : List IIt) (k : Nat)
@[push_cast] theorem its_p : partOf (its l) (k * 8) (some 8) = if k < l.length then some (.agg (l.getD k IIt.zero).cells) else none := flat_partD _ _ _ IIt.zero IIt.len (by omega) _
@[push_cast] theorem its_7 : (its l)[k * 8 + 7]? = if k < l.length then some (.int .u32 ((l.getD k IIt.zero).next.toNat : Int)) else none := by rw [its, flat_getD _ _ _ IIt.zero IIt.len _ _ (by omega)]; rfl
@[push_cast] theorem its_1 : (its l)[k * 8 + 1]? = if k < l.length then some (.int .i64 (l.getD k IIt.zero).i.op) else none := by rw [its, flat_getD _ _ _ IIt.zero IIt.len _ _ (by omega)]; rfl
@[push_cast] theorem its_p1 : partOf (its l) (k * 8 + 1) (some 6) = if k < l.length then some (.agg (l.getD k IIt.zero).i.cells) else none := by
  split
  · rename_i hk
    have h1 := flat_drop IIt.cells 8 l (fun x _ => IIt.len x) k (by omega)
    rw [List.drop_eq_getElem_cons hk, List.flatMap_cons] at h1
    rw [partOf_some, if_pos (by rw [its_len]; omega), its, ← List.drop_drop, h1]
    simp [hk]
    rfl
  · rename_i hk
    rw [partOf_some, if_neg (by rw [its_len]; omega)]
end
theorem its_take (l : List IIt) (n : Nat) (hn : n ≤ l.length) : (its l).take (n * 8) = its (l.take n) := by
  have e : its l = its (l.take n) ++ its (l.drop n) := by rw [its, its, its, ← List.flatMap_append, List.take_append_drop]
  have hl : (its (l.take n)).length = n * 8 := by rw [its_len, List.length_take, Nat.min_eq_left hn]
  rw [e, List.take_append_of_le_length (by omega), List.take_of_length_le (by omega)]
theorem its_snoc (l : List IIt) (k : Nat) (hk : k < l.length) : its (l.take (k + 1)) = its (l.take k) ++ (l.getD k IIt.zero).cells := by
  rw [its, List.take_add_one, List.flatMap_append]; simp [hk, its]
theorem Of_spec (l : List IIt) (hl : l.length ≤ 1000) : Spec Tryd.prog G 11 [.ro (its l) l.length] h (Is (.ro (its l) l.length) h) := by
  refine Spec.weak (Q := fun r h' => Own 8 h r (its l) l.length h') ?_ ?_
  · refine Spec.walk C11ok rfl ?_
    simp only [push_cast, simprocAttr]
    intro c0 hc0
    refine lpc.rel [0, 3, 4] (fun m ρ h' => ∃ (k : Nat) (v : AV), m = l.length - k ∧ k ≤ l.length ∧ Own 8 h v (its (l.take k)) k h' ∧ ρ = [(0, .ro (its l) l.length), (3, v), (4, .int .i64 (k : Int))])
      ⟨_, 0, .sl c0 0 0 0, rfl, by omega, .row c0 0 0 [] [] 0 hc0 rfl (by omega), rfl⟩ ?_
    rintro m _ h2 ⟨k, v, rfl, hk, ho, rfl⟩
    simp only [push_cast, simprocAttr]
    refine ⟨fun hk2 => ⟨hk2, hk2, ?_⟩, fun hk2 => ?_⟩
    · refine Own.app ho (m := 1) (IIt.len _) (by omega) (by omega) fun v3 h3 ho3 => ?_
      simp (disch := omega) only [push_cast, simprocAttr, wrap_i64, toNat_ofInt64, Nat.min_eq_left, Int.toNat_of_nonneg, ho3.one]
      exact ⟨_, _, by omega, .refl _, k + 1, v3, rfl, by omega, by rw [its_snoc _ _ hk2]; exact ho3, rfl⟩
    · obtain rfl : k = l.length := by omega
      rw [List.take_length] at ho
      exact ho
  · rintro r h' ho
    exact ⟨_, _, ⟨rfl, rfl⟩, ho.freeze⟩
theorem it_self (x : IIt) : aeq true [.i, .i, .i, .i, .i, .i, .i, .i] (.agg x.cells) (.agg x.cells) = some (.bool false) := by
  simp [aeq, cellsEq, IIt.cells, IIn.cells]
theorem Same_spec (l : List IIt) (hl : l.length ≤ 1000) : Spec Tryd.prog G 10 [.ro (its l) l.length, .ro (its l) l.length] h (Is (.bool true) h) := by
  have hn : ((l.length : Int) != (l.length : Int)) = false := by simp
  refine Spec.is C10ok rfl ?_
  simp only [push_cast, simprocAttr, hn]
  refine lpc.rel [0, 1, 5] (fun m ρ h' => ∃ k : Nat, m = l.length - k ∧ k ≤ l.length ∧ h = h' ∧ ρ = [(0, .ro (its l) l.length), (1, .ro (its l) l.length), (5, .int .i64 (k : Int))]) ⟨_, 0, rfl, by omega, rfl, rfl⟩ ?_
  rintro m _ h2 ⟨k, rfl, hk, rfl, rfl⟩
  have hs := it_self (l.getD k IIt.zero)
  simp only [push_cast, simprocAttr]
  refine ⟨fun hk2 => ?_, fun hk2 => ?_⟩
  · simp (disch := omega) only [push_cast, simprocAttr, wrap_i64, toNat_ofInt64, Nat.min_eq_left, Int.toNat_of_nonneg, hs, hk2]
    first | exact ⟨_, _, by omega, .refl _, k + 1, rfl, by omega, rfl, rfl⟩ | exact ⟨hk2, hk2, _, _, by omega, .refl _, k + 1, rfl, by omega, rfl, rfl⟩
  · first | trivial | exact Sub.refl h | skip
/-- A memory that a function makes. -/
def MemAt (h : Heap) (M : IRam) (r : AV) (h' : Heap) : Prop := ∃ l : Pl, r = .ptr l.p 0 ∧ RamAt h' l M ∧ (∀ c, l.has c → h c = none) ∧ ∀ c, ¬ l.has c → h' c = h c
def memN (b : List (BitVec 8)) : IRam := ⟨b, List.replicate (b.length / 64) false, List.replicate (b.length / 64) 0⟩
theorem fill_all {n : Nat} (hn : rightN n = true) {b : List (BitVec 8)} (hb : b.length ≤ n) : fillE (IRam.new n).b.length 2147483648#32 b.length = 0 ∧ (IRam.new n).fill 2147483648#32 b = ⟨b ++ List.replicate (n - b.length) 0, List.replicate (n / 64) false, List.replicate (n / 64) 0⟩ := by
  simp only [rightN, Bool.and_eq_true, decide_eq_true_eq] at hn
  have hl : (IRam.new n).b.length = n := by simp [IRam.new]
  have ha : (2147483648#32).toNat = 2147483648 := rfl
  rw [hl]
  by_cases h0 : b.length = 0
  · refine ⟨by rw [fillE, if_pos h0], ?_⟩
    rw [IRam.fill, if_neg (fun q => q.1 h0)]
    have : b = [] := List.length_eq_zero_iff.1 h0
    simp [IRam.new, this]
  · have hh : hasN n 2147483648#32 b.length = true := by simp only [hasN, Bool.and_eq_true, decide_eq_true_eq, ha]; omega
    refine ⟨by rw [fillE, if_neg h0, if_pos hh], ?_⟩
    rw [IRam.fill, hl, if_pos ⟨h0, hh⟩, ha]
    simp [IRam.put, IRam.new]
theorem memory_spec (b : List (BitVec 8)) (hn : rightN b.length = true) : Spec Tryd.prog G 13 [byt b] h (MemAt h (memN b)) := by
  obtain ⟨f1, f2⟩ := fill_all hn (Nat.le_refl b.length)
  rw [Nat.sub_self, List.replicate_zero, List.append_nil] at f2
  have hn' := hn
  simp only [rightN, Bool.and_eq_true, decide_eq_true_eq] at hn'
  refine Spec.walk C13ok rfl ?_
  simp only [push_cast, simprocAttr]
  refine (New_spec b.length hn).mono ?_
  rintro _ H ⟨l, rfl, hr, hnew, hold⟩
  simp only [push_cast, simprocAttr]
  refine (Fill_spec hr 2147483648#32 b (by omega)).mono ?_
  rw [f1, f2]
  rintro _ H2 ⟨rfl, hr2, hold2⟩
  simp only [push_cast, simprocAttr]
  exact ⟨l, rfl, hr2, hnew, fun c hc => by rw [hold2 c hc, hold c hc]⟩
end Go.Ab
