/- A block that is being done: its frame. -/
import Derived.Test.YtjaknpophnolmaaE5
import Derived.Test.YtjaknpophnolmaaB6a
set_option linter.unusedSimpArgs false
set_option linter.unusedVariables false
set_option maxRecDepth 10000
namespace Go.Ab
open Go.Proofs
variable {G : Glo} {h : Heap}
/-- A frame's cells. -/
def fcells (b : IBk) (regs : List (BitVec 32)) (p : Nat) (vv : AV) : List AV := bkP b :: (wds regs ++ [.ptr p 0, vv])
section
variable {b : IBk} {regs : List (BitVec 32)} {p : Nat} {vv : AV}
theorem fc_len (hl : regs.length = 32) : (fcells b regs p vv).length = 35 := by simp [fcells, hl, wds]
theorem fc_0 : (fcells b regs p vv)[0]? = some (bkP b) := rfl
theorem fc_reg (hl : regs.length = 32) (i : Nat) (hi : i < 32) : (fcells b regs p vv)[1 + i]? = some (.int .u32 ((regs.getD i 0#32).toNat : Int)) := by
  rw [Nat.add_comm, fcells, List.getElem?_cons_succ, List.getElem?_append_left (by simp [wds]; omega), wds_get, if_pos (by omega)]
theorem fc_33 (hl : regs.length = 32) : (fcells b regs p vv)[33]? = some (.ptr p 0) := by
  rw [fcells, List.getElem?_cons_succ, List.getElem?_append_right (by simp [wds]; omega)]
  simp [wds, hl]
theorem fc_34 (hl : regs.length = 32) : (fcells b regs p vv)[34]? = some vv := by
  rw [fcells, List.getElem?_cons_succ, List.getElem?_append_right (by simp [wds]; omega)]
  simp [wds, hl]
theorem fc_set (hl : regs.length = 32) (v : AV) : (fcells b regs p vv).set 34 v = fcells b regs p v := by
  simp only [fcells, List.set_cons_succ]
  rw [List.set_append_right _ _ (by simp [wds]; omega)]
  simp [wds, hl]
theorem fc_regs (hl : regs.length = 32) : partOf (fcells b regs p vv) 1 (some 32) = some (.agg (wds regs)) := by
  rw [partOf_some, if_pos (by rw [fc_len hl]; omega)]
  simp only [fcells, List.drop_succ_cons, List.drop_zero]
  rw [List.take_append_of_le_length (by simp [wds]; omega), List.take_of_length_le (by simp [wds]; omega)]
end
/-- The values so far, as a row of one's own. -/
def VAt (H h0 : Heap) (l : Pl) (pf : Nat) (vv : AV) (vals : List (BitVec 32)) : Prop :=
  (vv = .nils ∧ vals = []) ∨ ∃ c pre cap sp, vv = .sl c (List.length pre) vals.length cap ∧ H c = some ⟨pre ++ wds vals, sp⟩ ∧ cap ≤ vals.length + sp ∧ c ≠ pf ∧ ¬ l.has c ∧ h0 c = none
/-- A frame, in a heap. -/
structure FAt (H h0 : Heap) (l : Pl) (M : IRam) (pf : Nat) (b : IBk) (regs : List (BitVec 32)) (vv : AV) (vals : List (BitVec 32)) : Prop where
  ram : RamAt H l M
  np : ¬ l.has pf
  nf : h0 pf = none
  fr : H pf = some ⟨fcells b regs l.p vv, 0⟩
  vs : VAt H h0 l pf vv vals
  old : ∀ c, h0 c ≠ none → ¬ l.has c → H c = h0 c
  len : regs.length = 32
section
variable {H h0 : Heap} {l : Pl} {M : IRam} {pf : Nat} {b : IBk} {regs vals : List (BitVec 32)} {vv : AV}
theorem FAt.at (hf : FAt H h0 l M pf b regs vv vals) {i : Nat} (hi : i < vals.length) : ∃ c pre cap sp, vv = .sl c (List.length pre) vals.length cap ∧ H c = some ⟨pre ++ wds vals, sp⟩ ∧ c ≠ pf ∧ ¬ l.has c := by
  rcases hf.vs with ⟨_, rfl⟩ | ⟨c, pre, cap, sp, h1, h2, _, h3, h4, _⟩
  · simp at hi
  · exact ⟨c, pre, cap, sp, h1, h2, h3, h4⟩
theorem row_get (pre : List AV) (vals : List (BitVec 32)) (i : Nat) (hi : i < vals.length) : (pre ++ wds vals)[pre.length + i]? = some (.int .u32 ((vals.getD i 0#32).toNat : Int)) := by
  rw [List.getElem?_append_right (by omega), Nat.add_sub_cancel_left, wds_get, if_pos hi]
def lv (vals : List (BitVec 32)) (n : Int) : BitVec 32 := vals.getD n.toNat 0#32
theorem value_spec' (hf : FAt H h0 l M pf b regs vv vals) (n : Int) (h0n : 0 ≤ n) (hn : n < vals.length) : Spec Try.prog G 66 [.int .i64 n, .cp [.ptr pf 0] 0] H (Is (.int .u32 (lv vals n).toNat) H) := by
  obtain ⟨c, pre, cap, sp, rfl, hc, hcp, hcl⟩ := hf.at (i := n.toNat) (by omega)
  have hfr := hf.fr
  have e1 := fc_34 (b := b) (p := l.p) (vv := .sl c pre.length vals.length cap) hf.len
  have e2 := row_get pre vals n.toNat (by omega)
  refine Spec.is C66ok rfl ?_
  simp only [push_cast, simprocAttr, hfr, hc, e1, e2]
  exact ⟨⟨h0n, hn⟩, rfl⟩
/-- A value, loaded; the exit, if it can't be. -/
def extI (n : Int) (w : BitVec 32) : BitVec 32 := if n = 11 then BitVec.ofNat 32 (extN w.toNat 8) else if n = 12 then BitVec.ofNat 32 (extN w.toNat 16) else w
def loadE (o : IOp) (vals : List (BitVec 32)) (M : IRam) : Int := askedN M.b.length (lv vals o.a) (loadsN o.imm.toNat)
theorem sext_c (X m P H : Nat) (q : Int) (hP : P = 2 * H) (hm : m < P) (hq : q = if H ≤ m then (m : Int) - P else m) (hle : P ≤ 4294967296) : BitVec.ofInt 32 q = BitVec.ofNat 32 (if H ≤ m then m + 4294967296 - P else m) := by
  subst hq
  split
  · exact (ofInt_congr (-1) (by omega)).trans (BitVec.ofInt_natCast ..)
  · exact BitVec.ofInt_natCast ..
theorem sext8 (w : BitVec 32) : BitVec.ofInt 32 ((w <<< 24).toInt.fdiv (2 ^ 24)) = BitVec.ofNat 32 (extN w.toNat 8) := by
  have h1 := BitVec.toInt_eq_toNat_cond (w <<< 24)
  rw [BitVec.toNat_shiftLeft, Nat.shiftLeft_eq] at h1
  refine sext_c 0 (w.toNat % 256) 256 128 _ rfl (Nat.mod_lt _ (by omega)) ?_ (by omega)
  rw [pow_int, Int.fdiv_eq_ediv_of_nonneg _ (Int.natCast_nonneg _), h1]
  split <;> split <;> omega
theorem sext16 (w : BitVec 32) : BitVec.ofInt 32 ((w <<< 16).toInt.fdiv (2 ^ 16)) = BitVec.ofNat 32 (extN w.toNat 16) := by
  have h1 := BitVec.toInt_eq_toNat_cond (w <<< 16)
  rw [BitVec.toNat_shiftLeft, Nat.shiftLeft_eq] at h1
  refine sext_c 0 (w.toNat % 65536) 65536 32768 _ rfl (Nat.mod_lt _ (by omega)) ?_ (by omega)
  rw [pow_int, Int.fdiv_eq_ediv_of_nonneg _ (Int.natCast_nonneg _), h1]
  split <;> split <;> omega
theorem wExtend8 (w : BitVec 32) : Spec Try.prog G 85 [.int .u32 w.toNat, .int .i64 8] h (Is (.tup [.int .u32 (BitVec.ofNat 32 (extN w.toNat 8)).toNat, .int .i64 0]) h) := by
  refine Spec.is C85ok rfl ?_
  simp only [push_cast, simprocAttr]
  rw [wrap_i64 (by omega) (by omega), show (BitVec.ofInt 64 24).toNat = 24 from rfl, show min 24 32 = 24 from rfl, sext8]
theorem wExtend16 (w : BitVec 32) : Spec Try.prog G 85 [.int .u32 w.toNat, .int .i64 16] h (Is (.tup [.int .u32 (BitVec.ofNat 32 (extN w.toNat 16)).toNat, .int .i64 0]) h) := by
  refine Spec.is C85ok rfl ?_
  simp only [push_cast, simprocAttr]
  rw [wrap_i64 (by omega) (by omega), show (BitVec.ofInt 64 16).toNat = 16 from rfl, show min 16 32 = 16 from rfl, sext16]
theorem load_spec (hf : FAt H h0 l M pf b regs vv vals) (o : IOp) (h1 : 0 ≤ o.a) (h2 : o.a < vals.length) : Spec Try.prog G 67 [.ptr pf 0, .agg o.cells] H
    (Is (if loadE o vals M = 0 then .tup [.int .u32 (extI o.imm.toNat (M.load (lv vals o.a) (loadsN o.imm.toNat).toNat)).toNat, .int .i64 (-1)] else .tup [.int .u32 0, .int .i64 o.x]) H) := by
  obtain ⟨c, pre, cap, sp, rfl, hc, hcp, hcl⟩ := hf.at (i := o.a.toNat) (by omega)
  have hfr := hf.fr
  have e1 := fc_34 (b := b) (p := l.p) (vv := .sl c pre.length vals.length cap) hf.len
  have e3 := fc_33 (b := b) (p := l.p) (vv := .sl c pre.length vals.length cap) hf.len
  have e2 := row_get pre vals o.a.toNat (by omega)
  have hL := Load_spec (G := G) hf.ram (lv vals o.a) (loadsN o.imm.toNat)
  refine Spec.is C67ok rfl ?_
  simp only [push_cast, simprocAttr, hfr, hc, e1, e2, e3]
  refine ⟨⟨h1, h2⟩, (Loads_spec _).to ?_⟩
  simp only [push_cast, simprocAttr, hfr, hc, e1, e2, e3]
  have hLE : loadE o vals M = askedN M.b.length (lv vals o.a) (loadsN o.imm.toNat) := rfl
  rw [← hLE] at hL
  obtain ⟨n, hn⟩ : ∃ n : Int, (o.imm.toNat : Int) = n := ⟨_, rfl⟩
  have hw : IntKind.i64.wrap n = n := by rw [← hn]; exact i64_toNat _
  generalize loadE o vals M = E at hL ⊢
  rw [hn] at hL ⊢
  refine ⟨by rw [if_pos ⟨h1, h2⟩], hL.to ?_⟩
  by_cases hE : E = 0
  · rw [if_pos hE, if_pos hE]
    subst hE
    generalize M.load (lv vals o.a) (loadsN n).toNat = w
    by_cases h11 : n = 11
    · subst h11
      simp only [push_cast, simprocAttr, hfr, hc, e1, e2, e3, hn, hw]
      refine (wExtend8 _).to ?_
      simp only [push_cast, simprocAttr]
      simp [extI]
    · have h11' : (n = 11) = False := by simp [h11]
      by_cases h12 : n = 12
      · subst h12
        simp only [push_cast, simprocAttr, hfr, hc, e1, e2, e3, hn, hw]
        refine (wExtend16 _).to ?_
        simp only [push_cast, simprocAttr]
        simp [extI]
      · have h12' : (n = 12) = False := by simp [h12]
        simp only [push_cast, simprocAttr, hfr, hc, e1, e2, e3, hn, hw, h11', h12']
        simp [extI, h11, h12]
  · rw [if_neg hE, if_neg hE]
    have hE' : (E = 0) = False := by simp [hE]
    simp only [push_cast, simprocAttr, hfr, hc, e1, e2, e3, hn, hw, hE']
def storeE (o : IOp) (vals : List (BitVec 32)) (M : IRam) : Int := askedN M.b.length (lv vals o.a) (storesN o.imm.toNat)
def storeR (o : IOp) (vals : List (BitVec 32)) (M : IRam) : IRam × Bool := M.store (lv vals o.a) (storesN o.imm.toNat).toNat (lv vals o.b)
def storeX (o : IOp) (vals : List (BitVec 32)) (M : IRam) : Int × IRam := if storeE o vals M = 0 then (if (storeR o vals M).2 then o.y else -1, (storeR o vals M).1) else (o.x, M)
theorem store_spec (hf : FAt H h0 l M pf b regs vv vals) (o : IOp) (h1 : 0 ≤ o.a) (h2 : o.a < vals.length) (h3 : 0 ≤ o.b) (h4 : o.b < vals.length) : Spec Try.prog G 68 [.ptr pf 0, .agg o.cells] H
    (RamTo l (storeX o vals M).2 (.int .i64 (storeX o vals M).1) H) := by
  obtain ⟨c, pre, cap, sp, rfl, hc, hcp, hcl⟩ := hf.at (i := o.a.toNat) (by omega)
  have hfr := hf.fr
  have e1 := fc_34 (b := b) (p := l.p) (vv := .sl c pre.length vals.length cap) hf.len
  have e3 := fc_33 (b := b) (p := l.p) (vv := .sl c pre.length vals.length cap) hf.len
  have e2 := row_get pre vals o.a.toNat (by omega)
  have e4 := row_get pre vals o.b.toNat (by omega)
  have hL := Store_spec (G := G) hf.ram (lv vals o.a) (storesN o.imm.toNat) (lv vals o.b)
  have hX : storeX o vals M = if storeE o vals M = 0 then (if (storeR o vals M).2 then o.y else -1, (storeR o vals M).1) else (o.x, M) := rfl
  refine Spec.walk C68ok rfl ?_
  simp only [push_cast, simprocAttr, hfr, hc, e1, e2, e3, e4]
  refine ⟨⟨h1, h2⟩, ⟨h3, h4⟩, (Stores_spec _).to ?_⟩
  simp only [push_cast, simprocAttr, hfr, hc, e1, e2, e3, e4]
  change Spec _ _ _ _ _ (if storeE o vals M = 0 then RamTo l (storeR o vals M).1 (.tup [.bool (storeR o vals M).2, .int .i64 0]) H else RamTo l M (.tup [.bool false, .int .i64 (storeE o vals M)]) H) at hL
  refine ⟨⟨by rw [if_pos ⟨h1, h2⟩], by rw [if_pos ⟨h3, h4⟩]⟩, ?_⟩
  generalize storeE o vals M = E at hL hX
  generalize storeR o vals M = R at hL hX
  obtain ⟨M', hit⟩ := R
  by_cases hE : E = 0
  · rw [if_pos hE] at hL hX
    subst hE
    rw [hX]
    refine hL.mono ?_
    rintro _ H' ⟨rfl, hr', hs'⟩
    have hfr' := (hs' pf hf.np).trans hfr
    have hc' := (hs' c hcl).trans hc
    simp only [push_cast, simprocAttr, hfr', hc', e1, e2, e3, e4]
    refine ⟨fun ht => ?_, fun ht => ?_⟩
    · exact ⟨by rw [if_pos ht], hr', hs'⟩
    · exact ⟨by rw [if_neg (by rw [ht]; simp)], hr', hs'⟩
  · rw [if_neg hE] at hL hX
    rw [hX]
    refine hL.mono ?_
    rintro _ H' ⟨rfl, hr', hs'⟩
    have hfr' := (hs' pf hf.np).trans hfr
    have hc' := (hs' c hcl).trans hc
    have hE' : (E = 0) = False := by simp [hE]
    simp only [push_cast, simprocAttr, hfr', hc', e1, e2, e3, e4, hE']
    exact ⟨rfl, hr', hs'⟩
/-- A branch. -/
def takenN (n : Int) (a b : BitVec 32) : Bool := if n = 5 then decide (a = b) else if n = 6 then decide (a ≠ b) else if n = 7 then decide (a.toInt < b.toInt) else if n = 8 then decide (b.toInt ≤ a.toInt) else if n = 9 then decide (a.toNat < b.toNat) else decide (b.toNat ≤ a.toNat)
theorem Taken_spec (n : Int) (a b : BitVec 32) (hn : 5 ≤ n ∧ n ≤ 10) : Spec Try.prog G 69 [.int .i64 n, .int .u32 a.toNat, .int .u32 b.toNat] h (Is (.tup [.bool (takenN n a b), .int .i64 0]) h) := by
  have hc : n = 5 ∨ n = 6 ∨ n = 7 ∨ n = 8 ∨ n = 9 ∨ n = 10 := by omega
  rcases hc with rfl | rfl | rfl | rfl | rfl | rfl
  all_goals
    refine Spec.is C69ok rfl ?_
    simp only [push_cast, simprocAttr]
    simp [takenN]
    try (rw [Bool.eq_iff_iff]; simp)
theorem rTaken_spec (n : Int) (a b : BitVec 32) (hn : 5 ≤ n ∧ n ≤ 10) : Spec Try.prog G 46 [.int .i64 n, .int .u32 a.toNat, .int .u32 b.toNat] h (Is (.bool (takenN n a b)) h) := by
  have hc : n = 5 ∨ n = 6 ∨ n = 7 ∨ n = 8 ∨ n = 9 ∨ n = 10 := by omega
  rcases hc with rfl | rfl | rfl | rfl | rfl | rfl
  all_goals
    refine Spec.is C46ok rfl ?_
    simp only [push_cast, simprocAttr]
    refine (Signed_spec a).to ?_
    simp only [push_cast, simprocAttr]
    refine (Signed_spec b).to ?_
    simp only [push_cast, simprocAttr]
    simp [takenN]
    try (rw [Bool.eq_iff_iff]; simp [BitVec.toInt_inj])
/-- What an operation does: its value, the exit that it takes (-1: none), and the memory behind it. -/
def stepN (regs : List (BitVec 32)) (o : IOp) (vals : List (BitVec 32)) (M : IRam) : BitVec 32 × Int × IRam :=
  if o.code = 1 then (regs.getD o.imm.toNat 0#32, -1, M)
  else if o.code = 4 then (if loadE o vals M = 0 then (extI o.imm.toNat (M.load (lv vals o.a) (loadsN o.imm.toNat).toNat), -1, M) else (0, o.x, M))
  else if o.code = 5 then (0, storeX o vals M)
  else if o.code = 6 then (0, if takenN o.imm.toNat (lv vals o.a) (lv vals o.b) then -1 else o.x, M)
  else if o.code = 3 then (reckN o.imm.toNat (lv vals o.a) (lv vals o.b), -1, M)
  else (o.imm, -1, M)
/-- Behind an operation. -/
def OpTo (h0 : Heap) (l : Pl) (pf : Nat) (b : IBk) (regs vals : List (BitVec 32)) (w : BitVec 32) (x : Int) (M : IRam) (r : AV) (H : Heap) : Prop := r = .int .i64 x ∧ ∃ vv, FAt H h0 l M pf b regs vv (vals ++ [w])
/-- What is right of an operation that is done. -/
def okOp (o : IOp) (n : Nat) : Prop := (1 ≤ o.code ∧ o.code ≤ 6) ∧ (o.code = 1 → o.imm.toNat ≤ 31) ∧ (o.code = 3 → reckonsN o.imm.toNat = true) ∧ (o.code = 6 → 5 ≤ (o.imm.toNat : Int) ∧ (o.imm.toNat : Int) ≤ 10) ∧
  (3 ≤ o.code → 0 ≤ o.a ∧ o.a < n) ∧ (o.code = 3 ∨ o.code = 5 ∨ o.code = 6 → 0 ≤ o.b ∧ o.b < n)
/-- The value is laid behind the others. -/
theorem FAt.push (hf : FAt H h0 l M pf b regs vv vals) (w : BitVec 32) (hn : vals.length ≤ 1000) {Q : AV → Heap → Prop} (hq : ∀ v' H', cellsOf v' = some [v'] → H' pf = some ⟨fcells b regs l.p vv, 0⟩ → FAt (Ab.upd H' pf ⟨fcells b regs l.p v', 0⟩) h0 l M pf b regs v' (vals ++ [w]) → Q v' H') :
    appQ 1 4 1 [.int .u32 (w.toNat : Int)] vv H Q := by
  have hlen := hf.len
  have fin : ∀ (c : Nat) (pre : List AV) (cap sp : Nat) (H1 : Heap), H1 c = some ⟨pre ++ (wds vals ++ [.int .u32 (w.toNat : Int)]), sp⟩ → cap ≤ vals.length + 1 + sp → c ≠ pf → ¬ l.has c → h0 c = none → (∀ d, d ≠ c → h0 d ≠ none ∨ l.has d ∨ d = pf → H1 d = H d) → Q (.sl c pre.length (vals.length + 1) cap) H1 := by
    intro c pre cap sp H1 k1 k2 k3 k4 k5 k6
    have hpf := k6 pf (Ne.symm k3) (.inr (.inr rfl))
    refine hq _ _ rfl (hpf.trans hf.fr) ⟨?_, hf.np, hf.nf, upd_same _ _ _, .inr ⟨c, pre, cap, sp, by simp, ?_, by simpa using k2, k3, k4, k5⟩, fun d hd hl => ?_, hlen⟩
    · refine RamAt.upd ?_ hf.np
      have hm : ∀ d, l.has d → H1 d = H d := fun d hd => k6 d (fun e => k4 (e ▸ hd)) (.inr (.inl hd))
      exact ⟨hf.ram.ok, hf.ram.wf, (hm _ (.inl rfl)).trans hf.ram.hp, (hm _ (.inr (.inl rfl))).trans hf.ram.hb, (hm _ (.inr (.inr (.inl rfl)))).trans hf.ram.hw, (hm _ (.inr (.inr (.inr rfl)))).trans hf.ram.hg⟩
    · rw [upd_ne k3, k1]; simp [wds]
    · have d1 : d ≠ pf := fun e => hd (e ▸ hf.nf)
      have d2 : d ≠ c := fun e => hd (e ▸ k5)
      rw [upd_ne d1, k6 d d2 (.inl hd), hf.old d hd hl]
  rcases hf.vs with ⟨rfl, rfl⟩ | ⟨c, pre, cap, sp, rfl, hc, hcap, h3, h4, h5⟩
  · simp only [appQ]
    refine ⟨by decide, by decide, fun e => by omega, fun _ c cap hc hle => ?_⟩
    have hne : c ≠ pf := fun e => by rw [e, hf.fr] at hc; cases hc
    have hnl := hf.ram.not hc
    refine fin c [] cap ((cap - 1) * 1) _ (upd_same _ _ _) (by simp; omega) hne hnl ?_ (fun d hd _ => upd_ne hd)
    cases e : h0 c with
    | none => rfl
    | some x => rw [hf.old c (by rw [e]; simp) hnl, e] at hc; cases hc
  · simp only [appQ, hc]
    refine ⟨by simp [wds], by omega, by omega, by omega, fun c' pre' cap' sp' hc' hcap' => ?_⟩
    have hne : c' ≠ pf := by
      rcases hc' with rfl | hc'
      · exact h3
      · exact fun e => by rw [e, hf.fr] at hc'; cases hc'
    have hnl : ¬ l.has c' := by
      rcases hc' with rfl | hc'
      · exact h4
      · exact hf.ram.not hc'
    refine fin c' pre' cap' sp' _ ?_ (by omega) hne hnl ?_ (fun d hd hd2 => ?_)
    · rw [upd_same]; simp [List.append_assoc]
    · rcases hc' with rfl | hc'
      · exact h5
      · cases e : h0 c' with
        | none => rfl
        | some x => rw [hf.old c' (by rw [e]; simp) hnl, e] at hc'; cases hc'
    · have hdc : d ≠ c := by
        rintro rfl
        rcases hd2 with q | q | q
        · exact q h5
        · exact h4 q
        · exact h3 q
      rw [upd_ne hd]
      simp [era, hdc]
theorem FAt.ramTo (hf : FAt H h0 l M pf b regs vv vals) {H1 : Heap} {M1 : IRam} (hr : RamAt H1 l M1) (hs : ∀ c, ¬ l.has c → H1 c = H c) : FAt H1 h0 l M1 pf b regs vv vals := by
  refine ⟨hr, hf.np, hf.nf, (hs pf hf.np).trans hf.fr, ?_, fun c hc hl => (hs c hl).trans (hf.old c hc hl), hf.len⟩
  rcases hf.vs with h | ⟨c, pre, cap, sp, k1, k2, k3, k4, k5, k6⟩
  · exact .inl h
  · exact .inr ⟨c, pre, cap, sp, k1, (hs c k5).trans k2, k3, k4, k5, k6⟩
theorem op_spec' (hf : FAt H h0 l M pf b regs vv vals) (o : IOp) (hk : okOp o vals.length) (hn : vals.length ≤ 1000) : Spec Try.prog G 35 [.ptr pf 0, .agg o.cells] H
    (OpTo h0 l pf b regs vals (stepN regs o vals M).1 (stepN regs o vals M).2.1 (stepN regs o vals M).2.2) := by
  obtain ⟨k0, k1, k3, k6, ka, kb⟩ := hk
  have hfr := hf.fr
  have hlen := hf.len
  have e34 := fc_34 (b := b) (p := l.p) (vv := vv) hlen
  have hc : o.code = 1 ∨ o.code = 2 ∨ o.code = 3 ∨ o.code = 4 ∨ o.code = 5 ∨ o.code = 6 := by omega
  rcases hc with hc | hc | hc | hc | hc | hc
  · have hi := k1 hc
    have er := fc_reg (b := b) (p := l.p) (vv := vv) hlen o.imm.toNat (by omega)
    have hN : stepN regs o vals M = (regs.getD o.imm.toNat 0#32, -1, M) := by rw [stepN, if_pos hc]
    rw [hN]
    refine Spec.walk C35ok rfl ?_
    simp only [push_cast, simprocAttr, hfr, hc, er, e34]
    refine ⟨by omega, hf.push _ hn fun v' H' hv hfr' hF => ?_⟩
    simp only [push_cast, simprocAttr, hfr', hv, fc_set hlen, fc_len hlen]
    exact ⟨rfl, v', hF⟩
  · have hN : stepN regs o vals M = (o.imm, -1, M) := by simp [stepN, hc]
    rw [hN]
    refine Spec.walk C35ok rfl ?_
    simp only [push_cast, simprocAttr, hfr, hc, e34]
    refine hf.push _ hn fun v' H' hv hfr' hF => ?_
    simp only [push_cast, simprocAttr, hfr', hv, fc_set hlen, fc_len hlen]
    exact ⟨rfl, v', hF⟩
  · obtain ⟨a1, a2⟩ := ka (by omega)
    obtain ⟨b1, b2⟩ := kb (.inl hc)
    have hN : stepN regs o vals M = (reckN o.imm.toNat (lv vals o.a) (lv vals o.b), -1, M) := by simp [stepN, hc]
    have hP : pureN o (lv vals o.a) (lv vals o.b) = (reckN o.imm.toNat (lv vals o.a) (lv vals o.b), true) := by simp [pureN, hc, k3 hc]
    have hS := Pure_spec (G := G) (h := H) o (lv vals o.a) (lv vals o.b)
    rw [hP] at hS
    rw [hN]
    refine Spec.walk C35ok rfl ?_
    simp only [push_cast, simprocAttr, hfr, hc, e34]
    refine ⟨⟨_, C66ok.hf, rfl, rfl⟩, (value_spec' hf o.a a1 a2).to ?_⟩
    simp only [push_cast, simprocAttr, hfr, hc, e34]
    refine ⟨⟨_, C66ok.hf, rfl, rfl⟩, (value_spec' hf o.b b1 b2).to ?_⟩
    simp only [push_cast, simprocAttr, hfr, hc, e34]
    refine hS.to ?_
    simp only [push_cast, simprocAttr, hfr, hc, e34]
    refine hf.push _ hn fun v' H' hv hfr' hF => ?_
    simp only [push_cast, simprocAttr, hfr', hv, fc_set hlen, fc_len hlen]
    exact ⟨rfl, v', hF⟩
  · obtain ⟨a1, a2⟩ := ka (by omega)
    have hS := load_spec (G := G) hf o a1 a2
    have hN : stepN regs o vals M = if loadE o vals M = 0 then (extI o.imm.toNat (M.load (lv vals o.a) (loadsN o.imm.toNat).toNat), -1, M) else (0, o.x, M) := by simp [stepN, hc]
    by_cases hE : loadE o vals M = 0
    · rw [if_pos hE] at hS hN
      rw [hN]
      refine Spec.walk C35ok rfl ?_
      simp only [push_cast, simprocAttr, hfr, hc, e34]
      refine hS.to ?_
      simp only [push_cast, simprocAttr, hfr, hc, e34]
      refine hf.push _ hn fun v' H' hv hfr' hF => ?_
      simp only [push_cast, simprocAttr, hfr', hv, fc_set hlen, fc_len hlen]
      exact ⟨rfl, v', hF⟩
    · rw [if_neg hE] at hS hN
      rw [hN]
      refine Spec.walk C35ok rfl ?_
      simp only [push_cast, simprocAttr, hfr, hc, e34]
      refine hS.to ?_
      simp only [push_cast, simprocAttr, hfr, hc, e34]
      refine hf.push 0 hn fun v' H' hv hfr' hF => ?_
      simp only [push_cast, simprocAttr, hfr', hv, fc_set hlen, fc_len hlen]
      exact ⟨rfl, v', hF⟩
  · obtain ⟨a1, a2⟩ := ka (by omega)
    obtain ⟨b1, b2⟩ := kb (.inr (.inl hc))
    have hS := store_spec (G := G) hf o a1 a2 b1 b2
    have hN : stepN regs o vals M = (0, storeX o vals M) := by simp [stepN, hc]
    rw [hN]
    refine Spec.walk C35ok rfl ?_
    simp only [push_cast, simprocAttr, hfr, hc, e34]
    refine hS.mono ?_
    rintro _ H1 ⟨rfl, hr1, hs1⟩
    have hf1 := hf.ramTo hr1 hs1
    have hfr1 := hf1.fr
    simp only [push_cast, simprocAttr, hfr1, hc, e34]
    refine hf1.push 0 hn fun v' H' hv hfr' hF => ?_
    simp only [push_cast, simprocAttr, hfr', hv, fc_set hlen, fc_len hlen]
    exact ⟨rfl, v', hF⟩
  · obtain ⟨a1, a2⟩ := ka (by omega)
    obtain ⟨b1, b2⟩ := kb (.inr (.inr hc))
    have hS := Taken_spec (G := G) (h := H) o.imm.toNat (lv vals o.a) (lv vals o.b) (k6 hc)
    have hN : stepN regs o vals M = (0, if takenN o.imm.toNat (lv vals o.a) (lv vals o.b) then -1 else o.x, M) := by simp [stepN, hc]
    rw [hN]
    refine Spec.walk C35ok rfl ?_
    simp only [push_cast, simprocAttr, hfr, hc, e34]
    refine ⟨⟨_, C66ok.hf, rfl, rfl⟩, (value_spec' hf o.a a1 a2).to ?_⟩
    simp only [push_cast, simprocAttr, hfr, hc, e34]
    refine ⟨⟨_, C66ok.hf, rfl, rfl⟩, (value_spec' hf o.b b1 b2).to ?_⟩
    simp only [push_cast, simprocAttr, hfr, hc, e34]
    refine hS.to ?_
    cases hT : takenN o.imm.toNat (lv vals o.a) (lv vals o.b) with
    | true =>
      simp only [push_cast, simprocAttr, hfr, hc, e34]
      refine hf.push 0 hn fun v' H' hv hfr' hF => ?_
      simp only [push_cast, simprocAttr, hfr', hv, fc_set hlen, fc_len hlen]
      exact ⟨rfl, v', hF⟩
    | false =>
      simp only [push_cast, simprocAttr, hfr, hc, e34]
      refine hf.push 0 hn fun v' H' hv hfr' hF => ?_
      simp only [push_cast, simprocAttr, hfr', hv, fc_set hlen, fc_len hlen]
      exact ⟨rfl, v', hF⟩
end
end Go.Ab
