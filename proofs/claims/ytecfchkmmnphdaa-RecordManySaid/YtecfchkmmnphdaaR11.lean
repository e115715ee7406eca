/- The statement of layer 43 on many events. -/
import Derived.Test.YtecfchkmmnphdaaR10
set_option linter.unusedSimpArgs false
set_option linter.unusedVariables false
namespace Go.Ab
open Go.Proofs
variable {G : Glo} {h : Heap}
def evv (v : BitVec 8) : Evt := ⟨1, 0, v.setWidth 32, 0, 0, 0, Rg.zero, Kp.zero⟩
def evb (v : BitVec 8) : List (BitVec 8) := [1#8, 0#8, v]
theorem evv_right (v : BitVec 8) : (evv v).right = true := by
  have h1 : (v.setWidth 32).toNat ≤ 255 := by rw [sw32_8]; have := v.isLt; omega
  simp [Evt.right, evv, Evt.bare, h1]
  have := v.isLt
  omega
theorem evv_B (v : BitVec 8) : evB (evv v) Past.zero = evb v := by
  simp only [evB, evv, Past.zero, if_true]
  rw [show (0 - 0 : BitVec 64).toNat = 0 from rfl, num_lt (by omega)]
  simp only [evb]
  have : BitVec.setWidth 8 (BitVec.setWidth 32 v) = v := by
    apply BitVec.eq_of_toNat_eq
    rw [BitVec.toNat_setWidth, sw32_8]
    have := v.isLt
    omega
  rw [this]
  rfl
theorem evv_P (v : BitVec 8) : evP (evv v) Past.zero = Past.zero := by simp [evP, evv, Past.zero]
theorem evv_w (v : BitVec 8) (n : Nat) : wr (List.replicate n (evv v)) Past.zero = some (List.replicate n (evb v)).flatten := by
  induction n with
  | zero => rfl
  | succ n ih =>
    have h3 : Past.zero.tick.toNat ≤ (evv v).tick.toNat := Nat.le_refl 0
    simp only [List.replicate_succ, wr, evv_right, true_and, h3, if_true, evv_P, ih, evv_B, Option.map_some, List.flatten_cons]
theorem evv_r (v : BitVec 8) (r : List (BitVec 8)) : rdE Past.zero (1#8 :: 0#8 :: v :: r) = some (evv v, r) := by
  have h1 : rdN (18446744073709551615 - Past.zero.tick.toNat) (0#8 :: v :: r) 0 0 = some (0, v :: r) := by
    rw [rdN, if_neg (by simp), if_pos (by decide)]
    rfl
  simp only [rdE, h1, Option.bind_eq_bind, Option.bind_some]
  rfl
theorem evv_rd (v : BitVec 8) (k n : Nat) : rdA k (List.replicate n (evb v)).flatten Past.zero = (if n ≤ k then 0 else 3, List.replicate (min n k) (evv v)) := by
  induction k generalizing n with
  | zero =>
    cases n with
    | zero => simp [rdA]
    | succ n => simp [rdA, List.replicate_succ, evb]
  | succ k ih =>
    cases n with
    | zero => simp [rdA]
    | succ n =>
      have : (List.replicate (n + 1) (evb v)).flatten = 1#8 :: 0#8 :: v :: (List.replicate n (evb v)).flatten := by simp [List.replicate_succ, evb]
      rw [this, rdA_some (by simp) (evv_r v _), evv_P, ih, Nat.succ_min_succ, List.replicate_succ]
      simp only [Nat.add_le_add_iff_right]
theorem evv_cells (v : BitVec 8) : [AV.int .i64 1, .int .u64 0, .int .u32 ((v.setWidth 32).toNat : Int), .int .u32 0, .int .u32 0, .int .u32 0, .int .u32 0, .int .u32 0, .int .u32 0, .int .u32 0, .int .u32 0, .int .u32 0, .int .u32 0, .int .u32 0, .int .u32 0, .int .u32 0, .int .u32 0, .int .u32 0, .int .u32 0, .int .u32 0, .int .u32 0, .int .u32 0, .int .u32 0, .int .u32 0, .int .u32 0, .int .u32 0, .int .u32 0, .int .u32 0, .int .u32 0, .int .u32 0, .int .u32 0, .int .u32 0, .int .u32 0, .int .u32 0, .int .u32 0, .int .u32 0, .int .u32 0, .int .u32 0, .int .u32 0, .int .u32 0, .int .u32 0, .int .u32 0, .int .u32 0, .int .u32 0, .int .u32 0] = (evv v).cells := by
  simp [Evt.cells, evv, Rg.zero, Kp.zero, Kp.l, wds]
/-- Two rows of one's own, told the other way about. -/
theorem Own.swap {s1 s2 n m : Nat} {g h1 h2 : Heap} {v1 v2 : AV} {c1 c2 : List AV} (o1 : Own s1 g v1 c1 n h1) (o2 : Own s2 h1 v2 c2 m h2) : ∃ h3, Own s2 g v2 c2 m h3 ∧ Own s1 h3 v1 c1 n h2 := by
  cases o2 with
  | nil => exact ⟨g, .nil, o1⟩
  | row b2 m cap2 pre2 c2 sp2 hb2 hl2 hc2 =>
    cases o1 with
    | nil => exact ⟨_, .row b2 m cap2 pre2 c2 sp2 hb2 hl2 hc2, .nil⟩
    | row b1 n cap1 pre1 c1 sp1 hb1 hl1 hc1 =>
      obtain ⟨hne, hb2⟩ := upd_none hb2
      refine ⟨_, .row b2 m cap2 pre2 c2 sp2 hb2 hl2 hc2, ?_⟩
      rw [upd_comm hne.symm]
      exact .row b1 n cap1 pre1 c1 sp1 (by rw [upd_ne hne.symm]; exact hb1) hl1 hc1
theorem lawMany_spec (more v : BitVec 8) : Spec Try.prog G 8 [.int .u8 more.toNat, .int .u8 v.toNat] h (Is (.bool true) h) := by
  have hm : (BitVec.ofInt 8 ((more.toNat : Int).tmod 5)).toNat = more.toNat % 5 := by
    have : (more.toNat : Int).tmod 5 = ((more.toNat % 5 : Nat) : Int) := rfl
    rw [this, BitVec.ofInt_natCast, BitVec.toNat_ofNat]
    have := more.isLt
    omega
  refine Spec.is C8ok rfl ?_
  simp only [push_cast, simprocAttr]
  have hm1 : (more.toNat : Int).tmod 5 = ((more.toNat % 5 : Nat) : Int) := rfl
  have hm2 : IntKind.i64.wrap ((more.toNat % 5 : Nat) : Int) = ((more.toNat % 5 : Nat) : Int) := wrap_i64 (by omega) (by omega)
  rw [hm1, hm2, wrap_i64 (by omega) (by omega)]
  obtain ⟨n, hn, hn1, hn2⟩ : ∃ n : Nat, (4094 + ((more.toNat % 5 : Nat) : Int)) = (n : Int) ∧ 4094 ≤ n ∧ n ≤ 4098 := ⟨4094 + more.toNat % 5, by omega, by omega, by omega⟩
  rw [hn]
  intro b hb c hc
  have ev : [AV.int .u8 1, .int .u8 0, .int .u8 (v.toNat : Int)] = bys (evb v) := rfl
  refine lpc.rel [1, 5, 6, 7, 8] (fun m ρ h' => ∃ (k : Nat) (v1 v2 : AV) (h1 : Heap), m = n - k ∧ k ≤ n ∧ Own 45 h v1 ((List.replicate k (evv v)).flatMap Evt.cells) k h1 ∧ Own 1 h1 v2 (bys (List.replicate k (evb v)).flatten) (3 * k) h' ∧
    ρ = [(1, .int .u8 v.toNat), (5, .int .i64 n), (6, v1), (7, v2), (8, .int .i64 k)]) ⟨_, 0, .sl b 0 0 0, .sl c 0 0 0, _, rfl, by omega, .row b 0 0 [] [] 0 hb rfl (by omega), .row c 0 0 [] [] 0 hc rfl (by omega), rfl⟩ ?_
  rintro m _ h' ⟨k, v1, v2, h1, rfl, hk, o1, o2, rfl⟩
  simp only [push_cast, simprocAttr, evv_cells, ev]
  refine ⟨fun hk2 => ?_, fun hk2 => ?_⟩
  · obtain ⟨h3, o3, o4⟩ := o1.swap o2
    refine o4.app (m := 1) (by rw [Evt.len]) (by omega) (by omega) fun v3 h4 o5 => ?_
    simp only [push_cast, simprocAttr, evv_cells, ev]
    obtain ⟨h5, o6, o7⟩ := o3.swap o5
    refine ⟨rfl, ?_⟩
    refine o7.app (m := 3) (bytes := 1) (cs := bys (evb v)) (by rw [bys_len]; rfl) (by omega) (by omega) fun v4 h6 o8 => ?_
    simp (disch := omega) only [push_cast, simprocAttr, wrap_i64, toNat_ofInt64, Nat.min_eq_left, Int.toNat_of_nonneg]
    refine ⟨_, _, by omega, .refl _, k + 1, v3, v4, h5, rfl, by omega, ?_, ?_, rfl⟩
    · rw [List.replicate_succ', evs_snoc]; exact o6
    · rw [List.replicate_succ', List.flatten_append, bys_app, List.flatten_singleton, Nat.mul_add]; exact o8
  · obtain rfl : k = n := by omega
    obtain ⟨h3, o3, o4⟩ := o1.swap o2
    refine wkQ.own o4 ?_
    simp only [push_cast, simprocAttr]
    refine wkQ.own o3 ?_
    simp only [push_cast, simprocAttr]
    generalize hL : List.replicate k (evv v) = L
    generalize hB : (List.replicate k (evb v)).flatten = B
    have lL : L.length = k := by rw [← hL]; simp
    have lB : B.length = 3 * k := by rw [← hB]; simp [evb, List.length_flatten]; omega
    have hW := Write_spec (G := G) (h := h) L (by omega)
    have hR := Read_spec (G := G) (h := h) B
    have hwr : writeM L = some B := by rw [← hL, ← hB]; exact evv_w v k
    have hrd : rdA 4096 B Past.zero = (if k ≤ 4096 then 0 else 3, List.replicate (min k 4096) (evv v)) := by rw [← hB]; exact evv_rd v 4096 k
    have hSB := SameBytes_spec (G := G) (h := h) B B (by omega)
    have hSE := SameEvents_spec (G := G) (h := h) L L (by omega)
    simp only [evts, lL, decide_true, eq_self] at hW hSE
    simp only [byt, lB, decide_true, eq_self] at hR hSB
    refine hW.to ?_
    simp only [push_cast, simprocAttr]
    refine hR.to ?_
    simp only [push_cast, simprocAttr]
    by_cases hk4 : k ≤ 4096
    · have w1 : writeB L = B := by rw [writeB, if_neg (by omega), hwr]; rfl
      have w2 : writeE L = 0 := by rw [writeE, if_neg (by omega), hwr]; rfl
      have r1 : readE B = 0 := by rw [readE, hrd, if_pos hk4]
      have r2 : readL B = L := by rw [readL, if_pos r1, hrd, Nat.min_eq_left hk4, hL]
      rw [w1, w2, r1, r2]
      refine ⟨fun h4 => absurd h4 (by omega), fun h4 => ?_⟩
      simp only [push_cast, simprocAttr, byt, evts, lB, lL]
      refine hSB.to ?_
      simp only [push_cast, simprocAttr]
      refine hSE.to ?_
      simp only [push_cast, simprocAttr]
      refine awake_spec.to ?_
      simp only [push_cast, simprocAttr]
    · have w1 : writeB L = [] := by rw [writeB, if_pos (by omega)]
      have w2 : writeE L = 3 := by rw [writeE, if_pos (by omega)]
      have r1 : readE B = 3 := by rw [readE, hrd, if_neg hk4]
      have r2 : readL B = [] := by rw [readL, r1]; rfl
      rw [w1, w2, r1, r2]
      refine ⟨fun h4 => ?_, fun h4 => absurd h4 (by omega)⟩
      simp only [push_cast, simprocAttr]
      refine awake_spec.to ?_
      simp only [push_cast, simprocAttr]
end Go.Ab
