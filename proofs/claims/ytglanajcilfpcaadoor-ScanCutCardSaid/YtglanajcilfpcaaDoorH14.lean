/- Paths: where an item goes on. -/
import Derived.Test.YtglanajcilfpcaaDoorH13
set_option linter.unusedSimpArgs false
set_option linter.unusedVariables false
set_option maxRecDepth 10000
namespace Go.Ab
open Go.Proofs
variable {G : Glo} {h : Heap}
/-- Does a path go on behind an item, where, and which turns are left? -/
def pathOn (x : IIt) (n : Nat) : List Bool → Bool × IIt × List Bool
  | T => if brN n = false then (decide (n ≠ 4), x, T) else match T with
    | [] => (false, x, [])
    | t :: r => if t && decide (x.i.imm.toNat % 4 ≠ 0) then (false, x, r) else if t then (true, { x with next := x.pc + x.i.imm }, r) else (true, x, r)
def turnsC (T : List Bool) : List AV := [.ro (bos T) T.length]
def PathTo (H : Heap) (c ct : Nat) (p : Bool × IIt × List Bool) (r : AV) (H' : Heap) : Prop := r = .bool p.1 ∧ H' c = some ⟨p.2.1.cells, 0⟩ ∧ H' ct = some ⟨turnsC p.2.2, 0⟩ ∧ ∀ d, d ≠ c → d ≠ ct → H' d = H d
theorem pathOn_spec {H : Heap} {c ct : Nat} {x : IIt} {n : Nat} {T : List Bool} (hne : c ≠ ct) (hc : H c = some ⟨x.cells, 0⟩) (ht : H ct = some ⟨turnsC T, 0⟩) (hn : x.i.op = n) (h58 : n < 58) : Spec Tryd.prog G 35 [.ptr c 0, .ptr ct 0] H (PathTo H c ct (pathOn x n T)) := by
  obtain ⟨l8, g0, g1, g5, g7, g8⟩ := it_at x
  rw [hn] at g1
  have hb := fun H : Heap => branch_spec (G := G) (h := H) n
  have ht' : H ct = some ⟨[.ro (bos T) T.length], 0⟩ := ht
  cases hB : brN n with
  | false =>
    have hP : pathOn x n T = (decide (n ≠ 4), x, T) := by unfold pathOn; rw [if_pos hB]
    rw [hP]
    rw [hB] at hb
    refine Spec.walk C35ok rfl ?_
    simp only [push_cast, simprocAttr, hc, g1, l8, ht']
    refine (hb _).to ?_
    simp only [push_cast, simprocAttr, hc, g1, l8, ht']
    refine ⟨?_, hc, ht, fun _ _ _ => rfl⟩
    congr 1
    rw [Bool.eq_iff_iff]; simp; omega
  | true =>
    rw [hB] at hb
    cases T with
    | nil =>
      have hP : pathOn x n [] = (false, x, []) := by unfold pathOn; rw [if_neg (by rw [hB]; simp)]
      rw [hP]
      refine Spec.walk C35ok rfl ?_
      simp only [push_cast, simprocAttr, hc, g1, l8, ht']
      refine (hb _).to ?_
      simp only [push_cast, simprocAttr, hc, g1, l8, ht']
      exact ⟨rfl, hc, ht, fun _ _ _ => rfl⟩
    | cons t r =>
      have hP : pathOn x n (t :: r) = if t && decide (x.i.imm.toNat % 4 ≠ 0) then (false, x, r) else if t then (true, { x with next := x.pc + x.i.imm }, r) else (true, x, r) := by unfold pathOn; rw [if_neg (by rw [hB]; simp)]
      rw [hP]
      have b0 : (bos (t :: r))[0]? = some (.bool t) := rfl
      have b1 : (bos (t :: r)).drop 1 = bos r := rfl
      refine Spec.walk C35ok rfl ?_
      simp only [push_cast, simprocAttr, hc, g1, l8, ht']
      refine (hb _).to ?_
      have u1 : ∀ X, upd H ct X c = some ⟨x.cells, 0⟩ := fun X => by rw [upd_ne hne, hc]
      have tk : List.take r.length (bos r) = bos r := List.take_of_length_le (by simp [bos])
      have i5 : (x.i.imm.toNat : Int).tmod 4 = ((x.i.imm.toNat % 4 : Nat) : Int) := by rw [Int.tmod_eq_emod_of_nonneg (by omega)]; omega
      have fin0 : PathTo H c ct (false, x, r) (.bool false) (upd H ct ⟨turnsC r, 0⟩) := ⟨rfl, u1 _, upd_same _ _ _, fun d _ hd => upd_ne hd⟩
      have fin1 : PathTo H c ct (true, x, r) (.bool true) (upd H ct ⟨turnsC r, 0⟩) := ⟨rfl, u1 _, upd_same _ _ _, fun d _ hd => upd_ne hd⟩
      have fin2 : PathTo H c ct (true, { x with next := x.pc + x.i.imm }, r) (.bool true) (upd (upd H ct ⟨turnsC r, 0⟩) c ⟨{ x with next := x.pc + x.i.imm : IIt }.cells, 0⟩) :=
        ⟨rfl, upd_same _ _ _, by rw [upd_ne (Ne.symm hne), upd_same], fun d h1 h2 => by rw [upd_ne h1, upd_ne h2]⟩
      cases t with
      | false =>
        simp (disch := omega) only [push_cast, simprocAttr, wrap_i64, toNat_ofInt64, Nat.min_eq_left, Int.toNat_of_nonneg, hc, g1, l8, ht', b0, b1, u1, tk]
        exact ⟨fun q => by omega, fun _ => ⟨by omega, by omega, fin1⟩⟩
      | true =>
        by_cases hm : x.i.imm.toNat % 4 = 0
        · simp (disch := omega) only [push_cast, simprocAttr, wrap_i64, toNat_ofInt64, Nat.min_eq_left, Int.toNat_of_nonneg, hc, g0, g1, g5, l8, ht', b0, b1, u1, tk, i5, hm]
          rw [g8]
          exact ⟨fun q => by omega, fun _ => ⟨by omega, by omega, fin2⟩⟩
        · simp (disch := omega) only [push_cast, simprocAttr, wrap_i64, toNat_ofInt64, Nat.min_eq_left, Int.toNat_of_nonneg, hc, g0, g1, g5, l8, ht', b0, b1, u1, tk, i5, hm]
          exact ⟨fun q => by omega, fun _ => ⟨by omega, by omega, fun _ => fin0, fun q => by omega⟩⟩
end Go.Ab
