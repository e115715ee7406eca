/- The laws of eval: what is right of what is behind a block. -/
import Derived.Test.YtephiagmompfjaaGreatPD4
section
/- A block that is being done: its frame. -/
set_option linter.unusedSimpArgs false
set_option linter.unusedVariables false
set_option maxRecDepth 10000
namespace Go.Ab
open Go.Proofs
variable {G : Glo} {h : Heap}
/-- A frame's cells. -/
def fcells (b : IBk) (regs : List (BitVec 32)) (p : Nat) (vv : AV) : List AV := bkP b :: (wds regs ++ [.ptr p 0, vv])
section
variable {b : IBk} {regs : List (BitVec 32)} {p : Nat} {vv : AV}
theorem fc_len (hl : regs.length = 32) : (fcells b regs p vv).length = 35 := by simp [fcells, hl, wds]
theorem fc_0 : (fcells b regs p vv)[0]? = some (bkP b) := rfl
theorem fc_reg (hl : regs.length = 32) (i : Nat) (hi : i < 32) : (fcells b regs p vv)[1 + i]? = some (.int .u32 ((regs.getD i 0#32).toNat : Int)) := by
  rw [Nat.add_comm, fcells, List.getElem?_cons_succ, List.getElem?_append_left (by simp [wds]; omega), wds_get, if_pos (by omega)]
theorem fc_33 (hl : regs.length = 32) : (fcells b regs p vv)[33]? = some (.ptr p 0) := by
  rw [fcells, List.getElem?_cons_succ, List.getElem?_append_right (by simp [wds]; omega)]
  simp [wds, hl]
theorem fc_34 (hl : regs.length = 32) : (fcells b regs p vv)[34]? = some vv := by
  rw [fcells, List.getElem?_cons_succ, List.getElem?_append_right (by simp [wds]; omega)]
  simp [wds, hl]
theorem fc_set (hl : regs.length = 32) (v : AV) : (fcells b regs p vv).set 34 v = fcells b regs p v := by
  simp only [fcells, List.set_cons_succ]
  rw [List.set_append_right _ _ (by simp [wds]; omega)]
  simp [wds, hl]
theorem fc_regs (hl : regs.length = 32) : partOf (fcells b regs p vv) 1 (some 32) = some (.agg (wds regs)) := by
  rw [partOf_some, if_pos (by rw [fc_len hl]; omega)]
  simp only [fcells, List.drop_succ_cons, List.drop_zero]
  rw [List.take_append_of_le_length (by simp [wds]; omega), List.take_of_length_le (by simp [wds]; omega)]
end
/-- The values so far, as a row of one's own. -/
def VAt (H h0 : Heap) (l : Pl) (pf : Nat) (vv : AV) (vals : List (BitVec 32)) : Prop :=
  (vv = .nils ∧ vals = []) ∨ ∃ c pre cap sp, vv = .sl c (List.length pre) vals.length cap ∧ H c = some ⟨pre ++ wds vals, sp⟩ ∧ cap ≤ vals.length + sp ∧ c ≠ pf ∧ ¬ l.has c ∧ h0 c = none
/-- A frame, in a heap. -/
structure FAt (H h0 : Heap) (l : Pl) (M : IRam) (pf : Nat) (b : IBk) (regs : List (BitVec 32)) (vv : AV) (vals : List (BitVec 32)) : Prop where
  ram : RamAt H l M
  np : ¬ l.has pf
  nf : h0 pf = none
  fr : H pf = some ⟨fcells b regs l.p vv, 0⟩
  vs : VAt H h0 l pf vv vals
  old : ∀ c, h0 c ≠ none → ¬ l.has c → H c = h0 c
  len : regs.length = 32
section
variable {H h0 : Heap} {l : Pl} {M : IRam} {pf : Nat} {b : IBk} {regs vals : List (BitVec 32)} {vv : AV}
theorem FAt.at (hf : FAt H h0 l M pf b regs vv vals) {i : Nat} (hi : i < vals.length) : ∃ c pre cap sp, vv = .sl c (List.length pre) vals.length cap ∧ H c = some ⟨pre ++ wds vals, sp⟩ ∧ c ≠ pf ∧ ¬ l.has c := by
  rcases hf.vs with ⟨_, rfl⟩ | ⟨c, pre, cap, sp, h1, h2, _, h3, h4, _⟩
  · simp at hi
  · exact ⟨c, pre, cap, sp, h1, h2, h3, h4⟩
theorem row_get (pre : List AV) (vals : List (BitVec 32)) (i : Nat) (hi : i < vals.length) : (pre ++ wds vals)[pre.length + i]? = some (.int .u32 ((vals.getD i 0#32).toNat : Int)) := by
  rw [List.getElem?_append_right (by omega), Nat.add_sub_cancel_left, wds_get, if_pos hi]
def lv (vals : List (BitVec 32)) (n : Int) : BitVec 32 := vals.getD n.toNat 0#32
theorem value_spec' (hf : FAt H h0 l M pf b regs vv vals) (n : Int) (h0n : 0 ≤ n) (hn : n < vals.length) : Spec Tryz.prog G 94 [.int .i64 n, .cp [.ptr pf 0] 0] H (Is (.int .u32 (lv vals n).toNat) H) := by
  obtain ⟨c, pre, cap, sp, rfl, hc, hcp, hcl⟩ := hf.at (i := n.toNat) (by omega)
  have hfr := hf.fr
  have e1 := fc_34 (b := b) (p := l.p) (vv := .sl c pre.length vals.length cap) hf.len
  have e2 := row_get pre vals n.toNat (by omega)
  refine Spec.is C94ok rfl ?_
  simp only [push_cast, simprocAttr, hfr, hc, e1, e2]
  exact ⟨⟨h0n, hn⟩, rfl⟩
/-- A value, loaded; the exit, if it can't be. -/
def extI (n : Int) (w : BitVec 32) : BitVec 32 := if n = 11 then BitVec.ofNat 32 (extN w.toNat 8) else if n = 12 then BitVec.ofNat 32 (extN w.toNat 16) else w
def loadE (o : IOp) (vals : List (BitVec 32)) (M : IRam) : Int := askedN M.b.length (lv vals o.a) (loadsN o.imm.toNat)
theorem sext_c (X m P H : Nat) (q : Int) (hP : P = 2 * H) (hm : m < P) (hq : q = if H ≤ m then (m : Int) - P else m) (hle : P ≤ 4294967296) : BitVec.ofInt 32 q = BitVec.ofNat 32 (if H ≤ m then m + 4294967296 - P else m) := by
  subst hq
  split
  · exact (ofInt_congr (-1) (by omega)).trans (BitVec.ofInt_natCast ..)
  · exact BitVec.ofInt_natCast ..
theorem sext8 (w : BitVec 32) : BitVec.ofInt 32 ((w <<< 24).toInt.fdiv (2 ^ 24)) = BitVec.ofNat 32 (extN w.toNat 8) := by
  have h1 := BitVec.toInt_eq_toNat_cond (w <<< 24)
  rw [BitVec.toNat_shiftLeft, Nat.shiftLeft_eq] at h1
  refine sext_c 0 (w.toNat % 256) 256 128 _ rfl (Nat.mod_lt _ (by omega)) ?_ (by omega)
  rw [pow_int, Int.fdiv_eq_ediv_of_nonneg _ (Int.natCast_nonneg _), h1]
  split <;> split <;> omega
theorem sext16 (w : BitVec 32) : BitVec.ofInt 32 ((w <<< 16).toInt.fdiv (2 ^ 16)) = BitVec.ofNat 32 (extN w.toNat 16) := by
  have h1 := BitVec.toInt_eq_toNat_cond (w <<< 16)
  rw [BitVec.toNat_shiftLeft, Nat.shiftLeft_eq] at h1
  refine sext_c 0 (w.toNat % 65536) 65536 32768 _ rfl (Nat.mod_lt _ (by omega)) ?_ (by omega)
  rw [pow_int, Int.fdiv_eq_ediv_of_nonneg _ (Int.natCast_nonneg _), h1]
  split <;> split <;> omega
theorem wExtend8 (w : BitVec 32) : Spec Tryz.prog G 130 [.int .u32 w.toNat, .int .i64 8] h (Is (.tup [.int .u32 (BitVec.ofNat 32 (extN w.toNat 8)).toNat, .int .i64 0]) h) := by
  refine Spec.is C130ok rfl ?_
  simp only [push_cast, simprocAttr]
  rw [wrap_i64 (by omega) (by omega), show (BitVec.ofInt 64 24).toNat = 24 from rfl, show min 24 32 = 24 from rfl, sext8]
theorem wExtend16 (w : BitVec 32) : Spec Tryz.prog G 130 [.int .u32 w.toNat, .int .i64 16] h (Is (.tup [.int .u32 (BitVec.ofNat 32 (extN w.toNat 16)).toNat, .int .i64 0]) h) := by
  refine Spec.is C130ok rfl ?_
  simp only [push_cast, simprocAttr]
  rw [wrap_i64 (by omega) (by omega), show (BitVec.ofInt 64 16).toNat = 16 from rfl, show min 16 32 = 16 from rfl, sext16]
theorem load_spec (hf : FAt H h0 l M pf b regs vv vals) (o : IOp) (h1 : 0 ≤ o.a) (h2 : o.a < vals.length) : Spec Tryz.prog G 95 [.ptr pf 0, .agg o.cells] H
    (Is (if loadE o vals M = 0 then .tup [.int .u32 (extI o.imm.toNat (M.load (lv vals o.a) (loadsN o.imm.toNat).toNat)).toNat, .int .i64 (-1)] else .tup [.int .u32 0, .int .i64 o.x]) H) := by
  obtain ⟨c, pre, cap, sp, rfl, hc, hcp, hcl⟩ := hf.at (i := o.a.toNat) (by omega)
  have hfr := hf.fr
  have e1 := fc_34 (b := b) (p := l.p) (vv := .sl c pre.length vals.length cap) hf.len
  have e3 := fc_33 (b := b) (p := l.p) (vv := .sl c pre.length vals.length cap) hf.len
  have e2 := row_get pre vals o.a.toNat (by omega)
  have hL := Load_spec (G := G) hf.ram (lv vals o.a) (loadsN o.imm.toNat)
  refine Spec.is C95ok rfl ?_
  simp only [push_cast, simprocAttr, hfr, hc, e1, e2, e3]
  refine ⟨⟨h1, h2⟩, (Loads_spec _).to ?_⟩
  simp only [push_cast, simprocAttr, hfr, hc, e1, e2, e3]
  have hLE : loadE o vals M = askedN M.b.length (lv vals o.a) (loadsN o.imm.toNat) := rfl
  rw [← hLE] at hL
  obtain ⟨n, hn⟩ : ∃ n : Int, (o.imm.toNat : Int) = n := ⟨_, rfl⟩
  have hw : IntKind.i64.wrap n = n := by rw [← hn]; exact i64_toNat _
  generalize loadE o vals M = E at hL ⊢
  rw [hn] at hL ⊢
  refine ⟨by rw [if_pos ⟨h1, h2⟩], hL.to ?_⟩
  by_cases hE : E = 0
  · rw [if_pos hE, if_pos hE]
    subst hE
    generalize M.load (lv vals o.a) (loadsN n).toNat = w
    by_cases h11 : n = 11
    · subst h11
      simp only [push_cast, simprocAttr, hfr, hc, e1, e2, e3, hn, hw]
      refine (wExtend8 _).to ?_
      simp only [push_cast, simprocAttr]
      simp [extI]
    · have h11' : (n = 11) = False := by simp [h11]
      by_cases h12 : n = 12
      · subst h12
        simp only [push_cast, simprocAttr, hfr, hc, e1, e2, e3, hn, hw]
        refine (wExtend16 _).to ?_
        simp only [push_cast, simprocAttr]
        simp [extI]
      · have h12' : (n = 12) = False := by simp [h12]
        simp only [push_cast, simprocAttr, hfr, hc, e1, e2, e3, hn, hw, h11', h12']
        simp [extI, h11, h12]
  · rw [if_neg hE, if_neg hE]
    have hE' : (E = 0) = False := by simp [hE]
    simp only [push_cast, simprocAttr, hfr, hc, e1, e2, e3, hn, hw, hE']
def storeE (o : IOp) (vals : List (BitVec 32)) (M : IRam) : Int := askedN M.b.length (lv vals o.a) (storesN o.imm.toNat)
def storeR (o : IOp) (vals : List (BitVec 32)) (M : IRam) : IRam × Bool := M.store (lv vals o.a) (storesN o.imm.toNat).toNat (lv vals o.b)
def storeX (o : IOp) (vals : List (BitVec 32)) (M : IRam) : Int × IRam := if storeE o vals M = 0 then (if (storeR o vals M).2 then o.y else -1, (storeR o vals M).1) else (o.x, M)
theorem store_spec (hf : FAt H h0 l M pf b regs vv vals) (o : IOp) (h1 : 0 ≤ o.a) (h2 : o.a < vals.length) (h3 : 0 ≤ o.b) (h4 : o.b < vals.length) : Spec Tryz.prog G 96 [.ptr pf 0, .agg o.cells] H
    (RamTo l (storeX o vals M).2 (.int .i64 (storeX o vals M).1) H) := by
  obtain ⟨c, pre, cap, sp, rfl, hc, hcp, hcl⟩ := hf.at (i := o.a.toNat) (by omega)
  have hfr := hf.fr
  have e1 := fc_34 (b := b) (p := l.p) (vv := .sl c pre.length vals.length cap) hf.len
  have e3 := fc_33 (b := b) (p := l.p) (vv := .sl c pre.length vals.length cap) hf.len
  have e2 := row_get pre vals o.a.toNat (by omega)
  have e4 := row_get pre vals o.b.toNat (by omega)
  have hL := Store_spec (G := G) hf.ram (lv vals o.a) (storesN o.imm.toNat) (lv vals o.b)
  have hX : storeX o vals M = if storeE o vals M = 0 then (if (storeR o vals M).2 then o.y else -1, (storeR o vals M).1) else (o.x, M) := rfl
  refine Spec.walk C96ok rfl ?_
  simp only [push_cast, simprocAttr, hfr, hc, e1, e2, e3, e4]
  refine ⟨⟨h1, h2⟩, ⟨h3, h4⟩, (Stores_spec _).to ?_⟩
  simp only [push_cast, simprocAttr, hfr, hc, e1, e2, e3, e4]
  change Spec _ _ _ _ _ (if storeE o vals M = 0 then RamTo l (storeR o vals M).1 (.tup [.bool (storeR o vals M).2, .int .i64 0]) H else RamTo l M (.tup [.bool false, .int .i64 (storeE o vals M)]) H) at hL
  refine ⟨⟨by rw [if_pos ⟨h1, h2⟩], by rw [if_pos ⟨h3, h4⟩]⟩, ?_⟩
  generalize storeE o vals M = E at hL hX
  generalize storeR o vals M = R at hL hX
  obtain ⟨M', hit⟩ := R
  by_cases hE : E = 0
  · rw [if_pos hE] at hL hX
    subst hE
    rw [hX]
    refine hL.mono ?_
    rintro _ H' ⟨rfl, hr', hs'⟩
    have hfr' := (hs' pf hf.np).trans hfr
    have hc' := (hs' c hcl).trans hc
    simp only [push_cast, simprocAttr, hfr', hc', e1, e2, e3, e4]
    refine ⟨fun ht => ?_, fun ht => ?_⟩
    · exact ⟨by rw [if_pos ht], hr', hs'⟩
    · exact ⟨by rw [if_neg (by rw [ht]; simp)], hr', hs'⟩
  · rw [if_neg hE] at hL hX
    rw [hX]
    refine hL.mono ?_
    rintro _ H' ⟨rfl, hr', hs'⟩
    have hfr' := (hs' pf hf.np).trans hfr
    have hc' := (hs' c hcl).trans hc
    have hE' : (E = 0) = False := by simp [hE]
    simp only [push_cast, simprocAttr, hfr', hc', e1, e2, e3, e4, hE']
    exact ⟨rfl, hr', hs'⟩
/-- A branch. -/
def takenN (n : Int) (a b : BitVec 32) : Bool := if n = 5 then decide (a = b) else if n = 6 then decide (a ≠ b) else if n = 7 then decide (a.toInt < b.toInt) else if n = 8 then decide (b.toInt ≤ a.toInt) else if n = 9 then decide (a.toNat < b.toNat) else decide (b.toNat ≤ a.toNat)
theorem Taken_spec (n : Int) (a b : BitVec 32) (hn : 5 ≤ n ∧ n ≤ 10) : Spec Tryz.prog G 97 [.int .i64 n, .int .u32 a.toNat, .int .u32 b.toNat] h (Is (.tup [.bool (takenN n a b), .int .i64 0]) h) := by
  have hc : n = 5 ∨ n = 6 ∨ n = 7 ∨ n = 8 ∨ n = 9 ∨ n = 10 := by omega
  rcases hc with rfl | rfl | rfl | rfl | rfl | rfl
  all_goals
    refine Spec.is C97ok rfl ?_
    simp only [push_cast, simprocAttr]
    simp [takenN]
    try (rw [Bool.eq_iff_iff]; simp)
theorem rTaken_spec (n : Int) (a b : BitVec 32) (hn : 5 ≤ n ∧ n ≤ 10) : Spec Tryz.prog G 77 [.int .i64 n, .int .u32 a.toNat, .int .u32 b.toNat] h (Is (.bool (takenN n a b)) h) := by
  have hc : n = 5 ∨ n = 6 ∨ n = 7 ∨ n = 8 ∨ n = 9 ∨ n = 10 := by omega
  rcases hc with rfl | rfl | rfl | rfl | rfl | rfl
  all_goals
    refine Spec.is C77ok rfl ?_
    simp only [push_cast, simprocAttr]
    refine (Signed_spec a).to ?_
    simp only [push_cast, simprocAttr]
    refine (Signed_spec b).to ?_
    simp only [push_cast, simprocAttr]
    simp [takenN]
    try (rw [Bool.eq_iff_iff]; simp [BitVec.toInt_inj])
/-- What an operation does: its value, the exit that it takes (-1: none), and the memory behind it. -/
def stepN (regs : List (BitVec 32)) (o : IOp) (vals : List (BitVec 32)) (M : IRam) : BitVec 32 × Int × IRam :=
  if o.code = 1 then (regs.getD o.imm.toNat 0#32, -1, M)
  else if o.code = 4 then (if loadE o vals M = 0 then (extI o.imm.toNat (M.load (lv vals o.a) (loadsN o.imm.toNat).toNat), -1, M) else (0, o.x, M))
  else if o.code = 5 then (0, storeX o vals M)
  else if o.code = 6 then (0, if takenN o.imm.toNat (lv vals o.a) (lv vals o.b) then -1 else o.x, M)
  else if o.code = 3 then (reckN o.imm.toNat (lv vals o.a) (lv vals o.b), -1, M)
  else (o.imm, -1, M)
/-- Behind an operation. -/
def OpTo (h0 : Heap) (l : Pl) (pf : Nat) (b : IBk) (regs vals : List (BitVec 32)) (w : BitVec 32) (x : Int) (M : IRam) (r : AV) (H : Heap) : Prop := r = .int .i64 x ∧ ∃ vv, FAt H h0 l M pf b regs vv (vals ++ [w])
/-- What is right of an operation that is done. -/
def okOp (o : IOp) (n : Nat) : Prop := (1 ≤ o.code ∧ o.code ≤ 6) ∧ (o.code = 1 → o.imm.toNat ≤ 31) ∧ (o.code = 3 → reckonsN o.imm.toNat = true) ∧ (o.code = 6 → 5 ≤ (o.imm.toNat : Int) ∧ (o.imm.toNat : Int) ≤ 10) ∧
  (3 ≤ o.code → 0 ≤ o.a ∧ o.a < n) ∧ (o.code = 3 ∨ o.code = 5 ∨ o.code = 6 → 0 ≤ o.b ∧ o.b < n)
/-- The value is laid behind the others. -/
theorem FAt.push (hf : FAt H h0 l M pf b regs vv vals) (w : BitVec 32) (hn : vals.length ≤ 1000) {Q : AV → Heap → Prop} (hq : ∀ v' H', cellsOf v' = some [v'] → H' pf = some ⟨fcells b regs l.p vv, 0⟩ → FAt (Ab.upd H' pf ⟨fcells b regs l.p v', 0⟩) h0 l M pf b regs v' (vals ++ [w]) → Q v' H') :
    appQ 1 4 1 [.int .u32 (w.toNat : Int)] vv H Q := by
  have hlen := hf.len
  have fin : ∀ (c : Nat) (pre : List AV) (cap sp : Nat) (H1 : Heap), H1 c = some ⟨pre ++ (wds vals ++ [.int .u32 (w.toNat : Int)]), sp⟩ → cap ≤ vals.length + 1 + sp → c ≠ pf → ¬ l.has c → h0 c = none → (∀ d, d ≠ c → h0 d ≠ none ∨ l.has d ∨ d = pf → H1 d = H d) → Q (.sl c pre.length (vals.length + 1) cap) H1 := by
    intro c pre cap sp H1 k1 k2 k3 k4 k5 k6
    have hpf := k6 pf (Ne.symm k3) (.inr (.inr rfl))
    refine hq _ _ rfl (hpf.trans hf.fr) ⟨?_, hf.np, hf.nf, upd_same _ _ _, .inr ⟨c, pre, cap, sp, by simp, ?_, by simpa using k2, k3, k4, k5⟩, fun d hd hl => ?_, hlen⟩
    · refine RamAt.upd ?_ hf.np
      have hm : ∀ d, l.has d → H1 d = H d := fun d hd => k6 d (fun e => k4 (e ▸ hd)) (.inr (.inl hd))
      exact ⟨hf.ram.ok, hf.ram.wf, (hm _ (.inl rfl)).trans hf.ram.hp, (hm _ (.inr (.inl rfl))).trans hf.ram.hb, (hm _ (.inr (.inr (.inl rfl)))).trans hf.ram.hw, (hm _ (.inr (.inr (.inr rfl)))).trans hf.ram.hg⟩
    · rw [upd_ne k3, k1]; simp [wds]
    · have d1 : d ≠ pf := fun e => hd (e ▸ hf.nf)
      have d2 : d ≠ c := fun e => hd (e ▸ k5)
      rw [upd_ne d1, k6 d d2 (.inl hd), hf.old d hd hl]
  rcases hf.vs with ⟨rfl, rfl⟩ | ⟨c, pre, cap, sp, rfl, hc, hcap, h3, h4, h5⟩
  · simp only [appQ]
    refine ⟨by decide, by decide, fun e => by omega, fun _ c cap hc hle => ?_⟩
    have hne : c ≠ pf := fun e => by rw [e, hf.fr] at hc; cases hc
    have hnl := hf.ram.not hc
    refine fin c [] cap ((cap - 1) * 1) _ (upd_same _ _ _) (by simp; omega) hne hnl ?_ (fun d hd _ => upd_ne hd)
    cases e : h0 c with
    | none => rfl
    | some x => rw [hf.old c (by rw [e]; simp) hnl, e] at hc; cases hc
  · simp only [appQ, hc]
    refine ⟨by simp [wds], by omega, by omega, by omega, fun c' pre' cap' sp' hc' hcap' => ?_⟩
    have hne : c' ≠ pf := by
      rcases hc' with rfl | hc'
      · exact h3
      · exact fun e => by rw [e, hf.fr] at hc'; cases hc'
    have hnl : ¬ l.has c' := by
      rcases hc' with rfl | hc'
      · exact h4
      · exact hf.ram.not hc'
    refine fin c' pre' cap' sp' _ ?_ (by omega) hne hnl ?_ (fun d hd hd2 => ?_)
    · rw [upd_same]; simp [List.append_assoc]
    · rcases hc' with rfl | hc'
      · exact h5
      · cases e : h0 c' with
        | none => rfl
        | some x => rw [hf.old c' (by rw [e]; simp) hnl, e] at hc'; cases hc'
    · have hdc : d ≠ c := by
        rintro rfl
        rcases hd2 with q | q | q
        · exact q h5
        · exact h4 q
        · exact h3 q
      rw [upd_ne hd]
      simp [era, hdc]
theorem FAt.ramTo (hf : FAt H h0 l M pf b regs vv vals) {H1 : Heap} {M1 : IRam} (hr : RamAt H1 l M1) (hs : ∀ c, ¬ l.has c → H1 c = H c) : FAt H1 h0 l M1 pf b regs vv vals := by
  refine ⟨hr, hf.np, hf.nf, (hs pf hf.np).trans hf.fr, ?_, fun c hc hl => (hs c hl).trans (hf.old c hc hl), hf.len⟩
  rcases hf.vs with h | ⟨c, pre, cap, sp, k1, k2, k3, k4, k5, k6⟩
  · exact .inl h
  · exact .inr ⟨c, pre, cap, sp, k1, (hs c k5).trans k2, k3, k4, k5, k6⟩
theorem op_spec' (hf : FAt H h0 l M pf b regs vv vals) (o : IOp) (hk : okOp o vals.length) (hn : vals.length ≤ 1000) : Spec Tryz.prog G 61 [.ptr pf 0, .agg o.cells] H
    (OpTo h0 l pf b regs vals (stepN regs o vals M).1 (stepN regs o vals M).2.1 (stepN regs o vals M).2.2) := by
  obtain ⟨k0, k1, k3, k6, ka, kb⟩ := hk
  have hfr := hf.fr
  have hlen := hf.len
  have e34 := fc_34 (b := b) (p := l.p) (vv := vv) hlen
  have hc : o.code = 1 ∨ o.code = 2 ∨ o.code = 3 ∨ o.code = 4 ∨ o.code = 5 ∨ o.code = 6 := by omega
  rcases hc with hc | hc | hc | hc | hc | hc
  · have hi := k1 hc
    have er := fc_reg (b := b) (p := l.p) (vv := vv) hlen o.imm.toNat (by omega)
    have hN : stepN regs o vals M = (regs.getD o.imm.toNat 0#32, -1, M) := by rw [stepN, if_pos hc]
    rw [hN]
    refine Spec.walk C61ok rfl ?_
    simp only [push_cast, simprocAttr, hfr, hc, er, e34]
    refine ⟨by omega, hf.push _ hn fun v' H' hv hfr' hF => ?_⟩
    simp only [push_cast, simprocAttr, hfr', hv, fc_set hlen, fc_len hlen]
    exact ⟨rfl, v', hF⟩
  · have hN : stepN regs o vals M = (o.imm, -1, M) := by simp [stepN, hc]
    rw [hN]
    refine Spec.walk C61ok rfl ?_
    simp only [push_cast, simprocAttr, hfr, hc, e34]
    refine hf.push _ hn fun v' H' hv hfr' hF => ?_
    simp only [push_cast, simprocAttr, hfr', hv, fc_set hlen, fc_len hlen]
    exact ⟨rfl, v', hF⟩
  · obtain ⟨a1, a2⟩ := ka (by omega)
    obtain ⟨b1, b2⟩ := kb (.inl hc)
    have hN : stepN regs o vals M = (reckN o.imm.toNat (lv vals o.a) (lv vals o.b), -1, M) := by simp [stepN, hc]
    have hP : pureN o (lv vals o.a) (lv vals o.b) = (reckN o.imm.toNat (lv vals o.a) (lv vals o.b), true) := by simp [pureN, hc, k3 hc]
    have hS := Pure_spec (G := G) (h := H) o (lv vals o.a) (lv vals o.b)
    rw [hP] at hS
    rw [hN]
    refine Spec.walk C61ok rfl ?_
    simp only [push_cast, simprocAttr, hfr, hc, e34]
    refine ⟨⟨_, C94ok.hf, rfl, rfl⟩, (value_spec' hf o.a a1 a2).to ?_⟩
    simp only [push_cast, simprocAttr, hfr, hc, e34]
    refine ⟨⟨_, C94ok.hf, rfl, rfl⟩, (value_spec' hf o.b b1 b2).to ?_⟩
    simp only [push_cast, simprocAttr, hfr, hc, e34]
    refine hS.to ?_
    simp only [push_cast, simprocAttr, hfr, hc, e34]
    refine hf.push _ hn fun v' H' hv hfr' hF => ?_
    simp only [push_cast, simprocAttr, hfr', hv, fc_set hlen, fc_len hlen]
    exact ⟨rfl, v', hF⟩
  · obtain ⟨a1, a2⟩ := ka (by omega)
    have hS := load_spec (G := G) hf o a1 a2
    have hN : stepN regs o vals M = if loadE o vals M = 0 then (extI o.imm.toNat (M.load (lv vals o.a) (loadsN o.imm.toNat).toNat), -1, M) else (0, o.x, M) := by simp [stepN, hc]
    by_cases hE : loadE o vals M = 0
    · rw [if_pos hE] at hS hN
      rw [hN]
      refine Spec.walk C61ok rfl ?_
      simp only [push_cast, simprocAttr, hfr, hc, e34]
      refine hS.to ?_
      simp only [push_cast, simprocAttr, hfr, hc, e34]
      refine hf.push _ hn fun v' H' hv hfr' hF => ?_
      simp only [push_cast, simprocAttr, hfr', hv, fc_set hlen, fc_len hlen]
      exact ⟨rfl, v', hF⟩
    · rw [if_neg hE] at hS hN
      rw [hN]
      refine Spec.walk C61ok rfl ?_
      simp only [push_cast, simprocAttr, hfr, hc, e34]
      refine hS.to ?_
      simp only [push_cast, simprocAttr, hfr, hc, e34]
      refine hf.push 0 hn fun v' H' hv hfr' hF => ?_
      simp only [push_cast, simprocAttr, hfr', hv, fc_set hlen, fc_len hlen]
      exact ⟨rfl, v', hF⟩
  · obtain ⟨a1, a2⟩ := ka (by omega)
    obtain ⟨b1, b2⟩ := kb (.inr (.inl hc))
    have hS := store_spec (G := G) hf o a1 a2 b1 b2
    have hN : stepN regs o vals M = (0, storeX o vals M) := by simp [stepN, hc]
    rw [hN]
    refine Spec.walk C61ok rfl ?_
    simp only [push_cast, simprocAttr, hfr, hc, e34]
    refine hS.mono ?_
    rintro _ H1 ⟨rfl, hr1, hs1⟩
    have hf1 := hf.ramTo hr1 hs1
    have hfr1 := hf1.fr
    simp only [push_cast, simprocAttr, hfr1, hc, e34]
    refine hf1.push 0 hn fun v' H' hv hfr' hF => ?_
    simp only [push_cast, simprocAttr, hfr', hv, fc_set hlen, fc_len hlen]
    exact ⟨rfl, v', hF⟩
  · obtain ⟨a1, a2⟩ := ka (by omega)
    obtain ⟨b1, b2⟩ := kb (.inr (.inr hc))
    have hS := Taken_spec (G := G) (h := H) o.imm.toNat (lv vals o.a) (lv vals o.b) (k6 hc)
    have hN : stepN regs o vals M = (0, if takenN o.imm.toNat (lv vals o.a) (lv vals o.b) then -1 else o.x, M) := by simp [stepN, hc]
    rw [hN]
    refine Spec.walk C61ok rfl ?_
    simp only [push_cast, simprocAttr, hfr, hc, e34]
    refine ⟨⟨_, C94ok.hf, rfl, rfl⟩, (value_spec' hf o.a a1 a2).to ?_⟩
    simp only [push_cast, simprocAttr, hfr, hc, e34]
    refine ⟨⟨_, C94ok.hf, rfl, rfl⟩, (value_spec' hf o.b b1 b2).to ?_⟩
    simp only [push_cast, simprocAttr, hfr, hc, e34]
    refine hS.to ?_
    cases hT : takenN o.imm.toNat (lv vals o.a) (lv vals o.b) with
    | true =>
      simp only [push_cast, simprocAttr, hfr, hc, e34]
      refine hf.push 0 hn fun v' H' hv hfr' hF => ?_
      simp only [push_cast, simprocAttr, hfr', hv, fc_set hlen, fc_len hlen]
      exact ⟨rfl, v', hF⟩
    | false =>
      simp only [push_cast, simprocAttr, hfr, hc, e34]
      refine hf.push 0 hn fun v' H' hv hfr' hF => ?_
      simp only [push_cast, simprocAttr, hfr', hv, fc_set hlen, fc_len hlen]
      exact ⟨rfl, v', hF⟩
end
end Go.Ab
end
section
/- A block that is being done: its exits. -/
set_option linter.unusedSimpArgs false
set_option linter.unusedVariables false
set_option maxRecDepth 10000
namespace Go.Ab
open Go.Proofs
variable {G : Glo} {h : Heap}
/-- What is behind a block, as it is laid. -/
def outC (regs : List (BitVec 32)) (pc : BitVec 32) (done why exit : Int) : List AV := wds regs ++ [.int .u32 pc.toNat, .int .i64 done, .int .i64 why, .int .i64 exit]
section
variable {regs : List (BitVec 32)} {pc : BitVec 32} {done why exit : Int}
theorem oc_len (hl : regs.length = 32) : (outC regs pc done why exit).length = 36 := by simp [outC, hl, wds]
theorem oc_set (hl : regs.length = 32) (i : Nat) (hi : i < 32) (w : BitVec 32) : (outC regs pc done why exit).set i (.int .u32 w.toNat) = outC (regs.set i w) pc done why exit := by
  rw [outC, List.set_append_left _ _ (by simp [wds]; omega)]
  simp [outC, wds, List.map_set]
theorem oc_pc (hl : regs.length = 32) (w : BitVec 32) : (outC regs pc done why exit).set 32 (.int .u32 w.toNat) = outC regs w done why exit := by
  rw [outC, List.set_append_right _ _ (by simp [wds]; omega)]
  simp [outC, wds, hl]
theorem oc_all (hl : regs.length = 32) : partOf (outC regs pc done why exit) 0 (some 36) = some (.agg (outC regs pc done why exit)) := partOf_all (oc_len hl)
theorem oc_put (hl : regs.length = 32) (Z : List AV) (hz : Z.length = 36) : splice Z 0 (outC regs pc done why exit) = outC regs pc done why exit := splice_all' (by rw [oc_len hl, hz])
def Z36 : List AV := [.int .u32 0, .int .u32 0, .int .u32 0, .int .u32 0, .int .u32 0, .int .u32 0, .int .u32 0, .int .u32 0, .int .u32 0, .int .u32 0, .int .u32 0, .int .u32 0, .int .u32 0, .int .u32 0, .int .u32 0, .int .u32 0, .int .u32 0, .int .u32 0, .int .u32 0, .int .u32 0, .int .u32 0, .int .u32 0, .int .u32 0, .int .u32 0, .int .u32 0, .int .u32 0, .int .u32 0, .int .u32 0, .int .u32 0, .int .u32 0, .int .u32 0, .int .u32 0, .int .u32 0, .int .i64 0, .int .i64 0, .int .i64 0]
theorem oc_z (hl : regs.length = 32) : splice [.int .u32 0, .int .u32 0, .int .u32 0, .int .u32 0, .int .u32 0, .int .u32 0, .int .u32 0, .int .u32 0, .int .u32 0, .int .u32 0, .int .u32 0, .int .u32 0, .int .u32 0, .int .u32 0, .int .u32 0, .int .u32 0, .int .u32 0, .int .u32 0, .int .u32 0, .int .u32 0, .int .u32 0, .int .u32 0, .int .u32 0, .int .u32 0, .int .u32 0, .int .u32 0, .int .u32 0, .int .u32 0, .int .u32 0, .int .u32 0, .int .u32 0, .int .u32 0, .int .u32 0, .int .i64 0, .int .i64 0, .int .i64 0] 0 (wds regs) = outC regs 0#32 0 0 0 := by
  have hw : (wds regs).length = 32 := by simp [wds, hl]
  rw [splice_ne (by omega), List.take_zero, List.nil_append, Nat.zero_add, hw]
  rfl
theorem oc_put36 (hl : regs.length = 32) : splice [.int .u32 0, .int .u32 0, .int .u32 0, .int .u32 0, .int .u32 0, .int .u32 0, .int .u32 0, .int .u32 0, .int .u32 0, .int .u32 0, .int .u32 0, .int .u32 0, .int .u32 0, .int .u32 0, .int .u32 0, .int .u32 0, .int .u32 0, .int .u32 0, .int .u32 0, .int .u32 0, .int .u32 0, .int .u32 0, .int .u32 0, .int .u32 0, .int .u32 0, .int .u32 0, .int .u32 0, .int .u32 0, .int .u32 0, .int .u32 0, .int .u32 0, .int .u32 0, .int .u32 0, .int .i64 0, .int .i64 0, .int .i64 0] 0 (outC regs pc done why exit) = outC regs pc done why exit := oc_put hl _ rfl
theorem oc_33 (hl : regs.length = 32) (d : Int) : (outC regs pc done why exit).set 33 (.int .i64 d) = outC regs pc d why exit := by
  rw [outC, List.set_append_right _ _ (by simp [wds]; omega)]
  simp [outC, wds, hl]
theorem oc_34 (hl : regs.length = 32) (d : Int) : (outC regs pc done why exit).set 34 (.int .i64 d) = outC regs pc done d exit := by
  rw [outC, List.set_append_right _ _ (by simp [wds]; omega)]
  simp [outC, wds, hl]
theorem oc_35 (hl : regs.length = 32) (d : Int) : (outC regs pc done why exit).set 35 (.int .i64 d) = outC regs pc done why d := by
  rw [outC, List.set_append_right _ _ (by simp [wds]; omega)]
  simp [outC, wds, hl]
end
def foldR (vals : List (BitVec 32)) (m : List IVl) (regs : List (BitVec 32)) : List (BitVec 32) := m.foldl (fun r v => r.set v.reg.toNat (lv vals v.val)) regs
theorem foldR_len (vals m regs) : (foldR vals m regs).length = regs.length := by
  unfold foldR
  induction m generalizing regs with
  | nil => rfl
  | cons v m ih => simp [List.foldl_cons, ih]
theorem foldR_take (vals : List (BitVec 32)) (m : List IVl) (regs : List (BitVec 32)) (k : Nat) (hk : k < m.length) : foldR vals (m.take (k + 1)) regs = (foldR vals (m.take k) regs).set (m.getD k IVl.zero).reg.toNat (lv vals (m.getD k IVl.zero).val) := by
  unfold foldR
  rw [List.take_add_one, List.getElem?_eq_getElem hk, List.foldl_append]
  simp [hk]
def leaveR (e : IEx) (regs vals : List (BitVec 32)) : List (BitVec 32) := foldR vals e.map regs
def leaveP (e : IEx) (vals : List (BitVec 32)) : BitVec 32 := if e.to = -1 then e.pc else lv vals e.to
/-- What is right of an exit that is taken. -/
def okEx (e : IEx) (n : Nat) : Prop := (∀ i, i < e.map.length → (0 ≤ (e.vl i).val ∧ (e.vl i).val < n) ∧ 0 ≤ (e.vl i).reg ∧ (e.vl i).reg ≤ 31) ∧ (e.to = -1 ∨ 0 ≤ e.to ∧ e.to < n)
section
variable {H h0 : Heap} {l : Pl} {M : IRam} {pf : Nat} {b : IBk} {regs vals : List (BitVec 32)} {vv : AV}
theorem leave_spec (hf : FAt H h0 l M pf b regs vv vals) (n : Int) (h1 : 0 ≤ n) (h2 : n < b.exits.length) (hm : (b.ex n.toNat).map.length ≤ 1000) (he : okEx (b.ex n.toNat) vals.length) :
    Spec Tryz.prog G 62 [.ptr pf 0, .int .i64 n] H
    (Is (.agg (outC (leaveR (b.ex n.toNat) regs vals) (leaveP (b.ex n.toNat) vals) (b.ex n.toNat).done (b.ex n.toNat).why n)) H) := by
  have hfr := hf.fr
  have hlen := hf.len
  have e34 := fc_34 (b := b) (p := l.p) (vv := vv) hlen
  have e0 : (fcells b regs l.p vv)[0]? = some (bkP b) := rfl
  have er := fc_regs (b := b) (p := l.p) (vv := vv) hlen
  have hx : (b.exits.getD n.toNat IEx.zero) = b.ex n.toNat := rfl
  generalize b.ex n.toNat = e at *
  refine Spec.is C62ok rfl ?_
  simp only [push_cast, simprocAttr, hfr, e0]
  intro c4 hc4
  have n4 : c4 ≠ pf := fun e => by rw [e, hfr] at hc4; cases hc4
  obtain ⟨H4, hH4⟩ : ∃ H4, upd H c4 ⟨[.int .u32 0, .int .u32 0, .int .u32 0, .int .u32 0, .int .u32 0, .int .u32 0, .int .u32 0, .int .u32 0, .int .u32 0, .int .u32 0, .int .u32 0, .int .u32 0, .int .u32 0, .int .u32 0, .int .u32 0, .int .u32 0, .int .u32 0, .int .u32 0, .int .u32 0, .int .u32 0, .int .u32 0, .int .u32 0, .int .u32 0, .int .u32 0, .int .u32 0, .int .u32 0, .int .u32 0, .int .u32 0, .int .u32 0, .int .u32 0, .int .u32 0, .int .u32 0, .int .u32 0, .int .i64 0, .int .i64 0, .int .i64 0], 0⟩ = H4 := ⟨_, rfl⟩
  have p4 : H4 pf = some ⟨fcells b regs l.p vv, 0⟩ := by rw [← hH4, upd_ne (Ne.symm n4)]; exact hfr
  have z4 : ∃ Z : List AV, Z.length = 36 ∧ H4 c4 = some ⟨Z, 0⟩ := ⟨_, rfl, by rw [← hH4, upd_same]⟩
  have s4 : ∀ d, d ≠ c4 → H4 d = H d := fun d hd => by rw [← hH4, upd_ne hd]
  rw [hH4]
  clear hH4
  obtain ⟨Z, hZ, z4⟩ := z4
  simp only [push_cast, simprocAttr, p4, e0]
  refine ⟨⟨h1, h2⟩, by omega, fun c5 hc5 => ?_⟩
  rw [hx]
  rw [era_none hc5]
  have hA : hlen = hlen := rfl
  simp only [push_cast, simprocAttr, p4, e0, er, oc_z hlen, oc_pc hlen, oc_33 hlen, oc_34 hlen, oc_35 hlen, oc_len hlen, hlen]
  intro c6 hc6
  have n6 : c6 ≠ pf := fun e => by rw [e, p4] at hc6; cases hc6
  have n64 : c6 ≠ c4 := fun e => by rw [e, z4] at hc6; cases hc6
  refine ⟨by rw [upd_ne (Ne.symm n6), p4]; exact er, ?_⟩
  have hsub : ∀ (c4 : Nat), H c4 = none → ∀ (H6 : Heap), (∀ c, H c ≠ none → H6 c = H c) → ∀ X, Sub H (upd H6 c4 X) := by
    intro c4 hc4 H6 s6 X d x hd
    have d4 : d ≠ c4 := fun e => by rw [e, hc4] at hd; cases hd
    rw [upd_ne d4, s6 d (by rw [hd]; simp), hd]
  have hmap : ∀ i, i < e.map.length → (0 ≤ (e.map.getD i IVl.zero).val ∧ (e.map.getD i IVl.zero).val < vals.length) ∧ 0 ≤ (e.map.getD i IVl.zero).reg ∧ (e.map.getD i IVl.zero).reg ≤ 31 := he.1
  refine lpc.rel [0, 4, 5, 6, 32, 33, 34] (fun m ρ h' => ∃ k, m = e.map.length - k ∧ k ≤ e.map.length ∧ upd H4 c6 ⟨outC (foldR vals (e.map.take k) regs) e.pc e.done e.why n, 0⟩ = h' ∧
    ρ = [(0, .ptr pf 0), (4, .ptr c4 0), (5, .cp e.cells 0), (6, .ptr c6 0), (32, vls e.map), (33, .int .i64 (e.map.length : Int)), (34, .int .i64 (k : Int))]) ⟨_, 0, rfl, by omega, rfl, rfl⟩ ?_
  rintro m _ _ ⟨k, rfl, hk, rfl, rfl⟩
  have hlen2 : (foldR vals (e.map.take k) regs).length = 32 := by rw [foldR_len, hlen]
  obtain ⟨R, hR⟩ : ∃ R, foldR vals (e.map.take k) regs = R := ⟨_, rfl⟩
  rw [hR] at hlen2 ⊢
  have q6 : (upd H4 c6 ⟨outC R e.pc e.done e.why n, 0⟩) pf = some ⟨fcells b regs l.p vv, 0⟩ := by rw [upd_ne (Ne.symm n6), p4]
  have r6 := upd_same H4 c6 ⟨outC R e.pc e.done e.why n, 0⟩
  have s6 : ∀ c, H c ≠ none → (upd H4 c6 ⟨outC R e.pc e.done e.why n, 0⟩) c = H c := by
    intro c hc
    have d4 : c ≠ c4 := fun e => by rw [e, hc4] at hc; exact hc rfl
    have d6 : c ≠ c6 := fun e => by rw [s4 c6 n64, ← e] at hc6; exact hc hc6
    rw [upd_ne d6, s4 c d4]
  have u6 : ∀ X, upd (upd H4 c6 ⟨outC R e.pc e.done e.why n, 0⟩) c6 X = upd H4 c6 X := fun X => upd_upd _ _ _ _
  have y4 : (upd H4 c6 ⟨outC R e.pc e.done e.why n, 0⟩) c4 = some ⟨Z, 0⟩ := by rw [upd_ne (Ne.symm n64), z4]
  generalize upd H4 c6 ⟨outC R e.pc e.done e.why n, 0⟩ = H6 at q6 r6 s6 u6 y4 ⊢
  simp only [push_cast, simprocAttr]
  refine ⟨fun hk2 => ?_, fun hk2 => ?_⟩
  · obtain ⟨⟨v1, v2⟩, w1, w2⟩ := hmap k hk2
    obtain ⟨c, pre, cap, sp, rfl, hc, hcp, hcl⟩ := hf.at (i := (e.map.getD k IVl.zero).val.toNat) (by omega)
    have hc6' := (s6 c (by rw [hc]; simp)).trans hc
    have e2 := row_get pre vals (e.map.getD k IVl.zero).val.toNat (by omega)
    have hT := foldR_take vals e.map regs k hk2
    rw [hR] at hT
    generalize e.map.getD k IVl.zero = v at *
    refine ⟨hk2, hk2, fun c8 hc8 => ?_⟩
    rw [era_none hc8]
    simp (disch := omega) only [push_cast, simprocAttr, wrap_i64, toNat_ofInt64, Nat.min_eq_left, Int.toNat_of_nonneg, q6, e34, hc6', e2]
    refine ⟨⟨v1, v2⟩, ⟨w1, by omega⟩, ?_⟩
    have d4 : c ≠ c4 := fun e => by rw [e, hc4] at hc; cases hc
    have d6 : c ≠ c6 := fun e => by rw [s4 c6 n64, ← e] at hc6; rw [hc6] at hc; cases hc
    have g1 : ∀ X, upd H4 c6 X pf = some ⟨fcells b regs l.p (.sl c pre.length vals.length cap), 0⟩ := fun X => by rw [upd_ne (Ne.symm n6), p4]
    have g2 : ∀ X, upd H4 c6 X c = some ⟨pre ++ wds vals, sp⟩ := fun X => by rw [upd_ne d6, s4 c d4, hc]
    have os := oc_set (pc := e.pc) (done := e.done) (why := e.why) (exit := n) hlen2 v.reg.toNat (by omega) (vals.getD v.val.toNat 0#32)
    have ol := oc_len (pc := e.pc) (done := e.done) (why := e.why) (exit := n) hlen2
    have hb : v.reg.toNat + 1 ≤ 36 := by omega
    simp (disch := omega) only [push_cast, simprocAttr, wrap_i64, toNat_ofInt64, Nat.min_eq_left, Int.toNat_of_nonneg, r6, os, ol, u6, g1, g2, e34, e2, hb]
    exact ⟨_, _, by omega, .refl _, k + 1, rfl, by omega, by rw [hT]; rfl, rfl⟩
  · obtain rfl : k = e.map.length := by omega
    rw [List.take_of_length_le (Nat.le_refl _)] at hR
    have hLR : leaveR e regs vals = R := hR
    rw [hLR]
    have g1 : ∀ X, upd H4 c6 X pf = some ⟨fcells b regs l.p vv, 0⟩ := fun X => by rw [upd_ne (Ne.symm n6), p4]
    have g4 : ∀ X, upd H4 c6 X c4 = some ⟨Z, 0⟩ := fun X => by rw [upd_ne (Ne.symm n64), z4]
    have g6 : ∀ X, upd H4 c6 X c6 = some X := fun X => upd_same _ _ _
    by_cases ht : e.to = -1
    · have hLP : leaveP e vals = e.pc := by rw [leaveP, if_pos ht]
      rw [hLP]
      simp only [push_cast, simprocAttr, ht, r6, y4, oc_all hlen2, oc_len hlen2, hZ]
      exact hsub _ hc4 _ s6 _
    · have hLP : leaveP e vals = lv vals e.to := by rw [leaveP, if_neg ht]
      rw [hLP]
      have ht' : (e.to = -1) = False := by simp [ht]
      obtain ⟨t1, t2⟩ := he.2.resolve_left ht
      obtain ⟨c, pre, cap, sp, rfl, hc, hcp, hcl⟩ := hf.at (i := e.to.toNat) (by omega)
      have hc6' := (s6 c (by rw [hc]; simp)).trans hc
      have e2 := row_get pre vals e.to.toNat (by omega)
      simp only [push_cast, simprocAttr, ht', r6, y4, q6, e34, hc6', e2]
      refine ⟨⟨t1, t2⟩, by rw [oc_len hlen2]; omega, ?_⟩
      have op := oc_pc (pc := e.pc) (done := e.done) (why := e.why) (exit := n) hlen2 (vals.getD e.to.toNat 0#32)
      simp only [push_cast, simprocAttr, op, u6, g4, oc_all hlen2, oc_len hlen2, hZ]
      refine ⟨rfl, hsub _ hc4 _ (fun d hd => ?_) _⟩
      have d4 : d ≠ c4 := fun e => by rw [e, hc4] at hd; exact hd rfl
      have d6 : d ≠ c6 := fun e => by rw [s4 c6 n64, ← e] at hc6; exact hd hc6
      rw [upd_ne d6, s4 d d4]
end
end Go.Ab
end
section
/- A block, done. -/
set_option linter.unusedSimpArgs false
set_option linter.unusedVariables false
set_option maxRecDepth 10000
namespace Go.Ab
open Go.Proofs
variable {G : Glo} {h : Heap}
/-- The operations from one on, done: the exit that is taken (none: the last one), the values, and the memory. -/
def runN (regs : List (BitVec 32)) : List IOp → List (BitVec 32) → IRam → Option Int × List (BitVec 32) × IRam
  | [], vals, M => (none, vals, M)
  | o :: r, vals, M =>
    let s := stepN regs o vals M
    if s.2.1 = -1 then runN regs r (vals ++ [s.1]) s.2.2 else (some s.2.1, vals ++ [s.1], s.2.2)
def IBk.exitOf (b : IBk) (regs : List (BitVec 32)) (M : IRam) : Int := (runN regs b.ops [] M).1.getD b.last
/-- A block's end. -/
def IBk.outOf (b : IBk) (regs : List (BitVec 32)) (M : IRam) : List AV :=
  let n := b.exitOf regs M
  let e := b.ex n.toNat
  let vals := (runN regs b.ops [] M).2.1
  outC (leaveR e regs vals) (leaveP e vals) e.done e.why n
def IBk.ramOf (b : IBk) (regs : List (BitVec 32)) (M : IRam) : IRam := (runN regs b.ops [] M).2.2
theorem val_ok {b : IBk} {n ahead : Int} (hv : b.val n ahead = true) : 0 ≤ n ∧ n < ahead ∧ n < b.ops.length := by
  simp only [IBk.val, Bool.and_eq_true, decide_eq_true_eq] at hv
  omega
theorem exit_ok {b : IBk} {n ahead : Int} (hv : b.exit n ahead = true) : (0 ≤ n ∧ n < b.exits.length) ∧ ((b.ex n.toNat).to = -1 ∨ b.val (b.ex n.toNat).to ahead = true) ∧ ∀ i, i < (b.ex n.toNat).map.length → b.val ((b.ex n.toNat).vl i).val ahead = true := by
  simp only [IBk.exit, Bool.and_eq_true, Bool.or_eq_true, decide_eq_true_eq] at hv
  exact ⟨hv.1.1, hv.1.2, fun i hi => allN_get hv.2 i hi⟩
theorem right_ops {b : IBk} (hr : b.right = true) (k : Nat) (hk : k < b.ops.length) : b.opR k = true := by
  simp only [IBk.right, Bool.and_eq_true] at hr
  exact allN_get hr.1.1.1.1 k hk
theorem right_ex {b : IBk} (hr : b.right = true) (k : Nat) (hk : k < b.exits.length) : b.leaves k = true := by
  simp only [IBk.right, Bool.and_eq_true] at hr
  exact allN_get hr.1.1.1.2 k hk
theorem leaves_ok {b : IBk} {k : Nat} (hl : b.leaves k = true) (i : Nat) (hi : i < (b.ex k).map.length) : 1 ≤ ((b.ex k).vl i).reg ∧ ((b.ex k).vl i).reg ≤ 31 := by
  simp only [IBk.leaves, Bool.and_eq_true, decide_eq_true_eq] at hl
  have := allN_get hl.2 i hi
  simp only [Bool.and_eq_true, decide_eq_true_eq] at this
  exact ⟨this.1.1, this.1.2⟩
/-- An exit that an operation of a right block names may be taken behind it. -/
theorem okEx_of {b : IBk} (hr : b.right = true) {n ahead : Int} {m : Nat} (hx : b.exit n ahead = true) (hm : ahead ≤ m) : 0 ≤ n ∧ n < b.exits.length ∧ okEx (b.ex n.toNat) m := by
  obtain ⟨⟨h1, h2⟩, h3, h4⟩ := exit_ok hx
  refine ⟨h1, h2, fun i hi => ?_, ?_⟩
  · have hv := val_ok (h4 i hi)
    have hl := leaves_ok (right_ex hr n.toNat (by omega)) i hi
    exact ⟨⟨hv.1, by omega⟩, by omega, hl.2⟩
  · rcases h3 with h3 | h3
    · exact .inl h3
    · have hv := val_ok h3
      exact .inr ⟨hv.1, by omega⟩
theorem op_ok {b : IBk} (hr : b.right = true) (k : Nat) (hk : k < b.ops.length) : okOp (b.op k) k ∧ ((b.op k).code = 4 ∨ (b.op k).code = 5 ∨ (b.op k).code = 6 → b.exit (b.op k).x k = true) ∧ ((b.op k).code = 5 → b.exit (b.op k).y k = true) := by
  have h := right_ops hr k hk
  rw [opR_eq b k (o := b.op k) rfl] at h
  generalize b.op k = o at h ⊢
  unfold okOp
  split at h
  · rename_i hc; simp only [Bool.and_eq_true, decide_eq_true_eq] at h; simp [hc]; omega
  · split at h
    · rename_i _ hc; simp [hc]
    · split at h
      · rename_i _ _ hc
        simp only [Bool.and_eq_true, decide_eq_true_eq] at h
        have v1 := val_ok h.1.2
        have v2 := val_ok h.2
        simp [hc, h.1.1.1.1]; omega
      · split at h
        · rename_i _ _ _ hc
          simp only [Bool.and_eq_true, decide_eq_true_eq] at h
          have v1 := val_ok h.1.2
          simp [hc, h.2]; omega
        · split at h
          · rename_i _ _ _ _ hc
            simp only [Bool.and_eq_true, decide_eq_true_eq] at h
            have v1 := val_ok h.1.1.1.2
            have v2 := val_ok h.1.1.2
            simp [hc, h.1.2, h.2]; omega
          · split at h
            · rename_i _ _ _ _ _ hc
              simp only [Bool.and_eq_true, decide_eq_true_eq] at h
              have v1 := val_ok h.1.1.2
              have v2 := val_ok h.1.2
              simp [hc, h.2]; omega
            · cases h
/-- The exit that an operation of a right block takes. -/
theorem step_exit {b : IBk} (hr : b.right = true) (k : Nat) (hk : k < b.ops.length) (regs vals : List (BitVec 32)) (M : IRam) (hx : (stepN regs (b.op k) vals M).2.1 ≠ -1) : b.exit (stepN regs (b.op k) vals M).2.1 k = true := by
  obtain ⟨_, h1, h2⟩ := op_ok hr k hk
  generalize b.op k = o at h1 h2 hx ⊢
  unfold stepN at hx ⊢
  split at hx
  · exact absurd rfl hx
  · rename_i c1
    rw [if_neg c1]
    split at hx
    · rename_i c4
      rw [if_pos c4]
      split at hx
      · exact absurd rfl hx
      · rename_i hE; rw [if_neg hE]; exact h1 (.inl c4)
    · rename_i c4
      rw [if_neg c4]
      split at hx
      · rename_i c5
        rw [if_pos c5]
        unfold storeX at hx ⊢
        split at hx
        · rename_i hE
          rw [if_pos hE]
          simp only at hx ⊢
          split at hx
          · rename_i hh; rw [if_pos hh]; exact h2 c5
          · exact absurd rfl hx
        · rename_i hE; rw [if_neg hE]; exact h1 (.inr (.inl c5))
      · rename_i c5
        rw [if_neg c5]
        split at hx
        · rename_i c6
          rw [if_pos c6]
          simp only at hx ⊢
          split at hx
          · exact absurd rfl hx
          · rename_i ht; rw [if_neg ht]; exact h1 (.inr (.inr c6))
        · rename_i c6
          split at hx <;> exact absurd rfl hx
def DoTo (h : Heap) (l : Pl) (M : IRam) (v : AV) (r : AV) (h' : Heap) : Prop := r = v ∧ RamAt h' l M ∧ ∀ c, ¬ l.has c → h' c = h c
theorem ram_cut {l : Pl} {M : IRam} {H2 h : Heap} (hr2 : RamAt H2 l M) (hold : ∀ c, h c ≠ none → ¬ l.has c → H2 c = h c) : ∃ h1, Sub h1 H2 ∧ RamAt h1 l M ∧ ∀ c, ¬ l.has c → h1 c = h c := by
  classical
  refine ⟨fun c => if l.has c then H2 c else h c, fun c x hx => ?_, ⟨hr2.ok, hr2.wf, ?_, ?_, ?_, ?_⟩, fun c hc => if_neg hc⟩
  · simp only at hx
    split at hx
    · exact hx
    · rename_i hc; rw [hold c (by rw [hx]; simp) hc]; exact hx
  · show (if _ then _ else _) = _
    rw [if_pos (.inl rfl)]; exact hr2.hp
  · show (if _ then _ else _) = _
    rw [if_pos (.inr (.inl rfl))]; exact hr2.hb
  · show (if _ then _ else _) = _
    rw [if_pos (.inr (.inr (.inl rfl)))]; exact hr2.hw
  · show (if _ then _ else _) = _
    rw [if_pos (.inr (.inr (.inr rfl)))]; exact hr2.hg
theorem fc_bld {b : IBk} {regs : List (BitVec 32)} (hl : regs.length = 32) (p : Nat) : (splice [bkP b, .int .u32 0, .int .u32 0, .int .u32 0, .int .u32 0, .int .u32 0, .int .u32 0, .int .u32 0, .int .u32 0, .int .u32 0, .int .u32 0, .int .u32 0, .int .u32 0, .int .u32 0, .int .u32 0, .int .u32 0, .int .u32 0, .int .u32 0, .int .u32 0, .int .u32 0, .int .u32 0, .int .u32 0, .int .u32 0, .int .u32 0, .int .u32 0, .int .u32 0, .int .u32 0, .int .u32 0, .int .u32 0, .int .u32 0, .int .u32 0, .int .u32 0, .int .u32 0, .nilp, .nils] 1 (wds regs)).set 33 (.ptr p 0) = fcells b regs p .nils := by
  have hw : (wds regs).length = 32 := by simp [wds, hl]
  rw [splice_ne (by omega), hw]
  simp only [List.take_succ_cons, List.take_zero, List.drop_succ_cons, List.drop_zero, Nat.reduceAdd]
  rw [List.set_append_right _ _ (by simp [hw])]
  simp [hw, fcells]
theorem fc_bl {b : IBk} {regs : List (BitVec 32)} (hl : regs.length = 32) : (splice [bkP b, .int .u32 0, .int .u32 0, .int .u32 0, .int .u32 0, .int .u32 0, .int .u32 0, .int .u32 0, .int .u32 0, .int .u32 0, .int .u32 0, .int .u32 0, .int .u32 0, .int .u32 0, .int .u32 0, .int .u32 0, .int .u32 0, .int .u32 0, .int .u32 0, .int .u32 0, .int .u32 0, .int .u32 0, .int .u32 0, .int .u32 0, .int .u32 0, .int .u32 0, .int .u32 0, .int .u32 0, .int .u32 0, .int .u32 0, .int .u32 0, .int .u32 0, .int .u32 0, .nilp, .nils] 1 (wds regs)).length = 35 := by
  rw [splice_length (by simp [wds, hl])]; rfl
section
variable {l : Pl} {M : IRam} {b : IBk} {regs : List (BitVec 32)}
theorem Do_right (hr : RamAt h l M) (hw : b.wf) (hc : b.check = 0) (hlen : regs.length = 32) (hm : ∀ e ∈ b.exits, e.map.length ≤ 1000) :
    Spec Tryz.prog G 27 [bkP b, .agg (wds regs), .ptr l.p 0] h (DoTo h l (b.ramOf regs M) (.tup [.agg (b.outOf regs M), .int .i64 0])) := by
  have hC := Check_spec (G := G) (h := h) b hw
  refine Spec.drop ?_
  have hwl : (wds regs).length = 32 := by simp [wds, hlen]
  have hpa : partOf (wds regs) 0 (some 32) = some (.agg (wds regs)) := partOf_all hwl
  refine Spec.walk C27ok rfl ?_
  simp only [push_cast, simprocAttr]
  intro c6 hc6
  obtain ⟨H6, hH6⟩ : ∃ H6, upd h c6 ⟨[.int .u32 0, .int .u32 0, .int .u32 0, .int .u32 0, .int .u32 0, .int .u32 0, .int .u32 0, .int .u32 0, .int .u32 0, .int .u32 0, .int .u32 0, .int .u32 0, .int .u32 0, .int .u32 0, .int .u32 0, .int .u32 0, .int .u32 0, .int .u32 0, .int .u32 0, .int .u32 0, .int .u32 0, .int .u32 0, .int .u32 0, .int .u32 0, .int .u32 0, .int .u32 0, .int .u32 0, .int .u32 0, .int .u32 0, .int .u32 0, .int .u32 0, .int .u32 0, .int .u32 0, .int .i64 0, .int .i64 0, .int .i64 0], 0⟩ = H6 := ⟨_, rfl⟩
  have n6 := hr.not hc6
  have r6 : RamAt H6 l M := hH6 ▸ hr.upd n6
  obtain ⟨Z, hZ, z6⟩ : ∃ Z : List AV, Z.length = 36 ∧ H6 c6 = some ⟨Z, 0⟩ := ⟨_, rfl, by rw [← hH6, upd_same]⟩
  have s6 : ∀ c, c ≠ c6 → H6 c = h c := fun c hc => by rw [← hH6, upd_ne hc]
  rw [hH6]
  clear hH6
  refine (Check_spec (G := G) (h := H6) b hw).to ?_
  rw [hc]
  have hb1 := fc_bld (b := b) hlen l.p
  have hb2 := fc_bl (b := b) hlen
  simp only [push_cast, simprocAttr, hpa, hwl, hb1, hb2, hlen]
  intro pf hpf
  have nl := r6.not hpf
  have n6f : c6 ≠ pf := fun e => by rw [← e, z6] at hpf; cases hpf
  have hF0 : FAt (upd H6 pf ⟨fcells b regs l.p .nils, 0⟩) H6 l M pf b regs .nils [] :=
    ⟨r6.upd nl, nl, hpf, upd_same _ _ _, .inl ⟨rfl, rfl⟩, fun c hc _ => upd_ne fun e => hc (e ▸ hpf), hlen⟩
  have hright : b.right = true := by
    unfold IBk.check at hc
    split at hc
    · cases hc
    · split at hc
      · assumption
      · cases hc
  have hol : b.ops.length ≤ 512 := by
    unfold IBk.check IBk.long at hc
    split at hc
    · cases hc
    · rename_i hl; simp only [Bool.or_eq_true, decide_eq_true_eq] at hl; omega
  have hmx : ∀ n, (b.ex n).map.length ≤ 1000 := fun n => getD_map hm
  have fin : ∀ (H2 : Heap) (M2 : IRam) (vv : AV) (vals : List (BitVec 32)) (n : Int), FAt H2 H6 l M2 pf b regs vv vals → b.ramOf regs M = M2 → b.outOf regs M = outC (leaveR (b.ex n.toNat) regs vals) (leaveP (b.ex n.toNat) vals) (b.ex n.toNat).done (b.ex n.toNat).why n →
      H2 c6 = some ⟨Z, 0⟩ ∧ (outC (leaveR (b.ex n.toNat) regs vals) (leaveP (b.ex n.toNat) vals) (b.ex n.toNat).done (b.ex n.toNat).why n).length = 36 ∧ splice Z 0 (outC (leaveR (b.ex n.toNat) regs vals) (leaveP (b.ex n.toNat) vals) (b.ex n.toNat).done (b.ex n.toNat).why n) = outC (leaveR (b.ex n.toNat) regs vals) (leaveP (b.ex n.toNat) vals) (b.ex n.toNat).done (b.ex n.toNat).why n ∧
      partOf (outC (leaveR (b.ex n.toNat) regs vals) (leaveP (b.ex n.toNat) vals) (b.ex n.toNat).done (b.ex n.toNat).why n) 0 (some 36) = some (.agg (b.outOf regs M)) ∧
      ∀ X, ∃ h1, Sub h1 (upd H2 c6 X) ∧ DoTo h l (b.ramOf regs M) (.tup [.agg (b.outOf regs M), .int .i64 0]) (.tup [.agg (b.outOf regs M), .int .i64 0]) h1 := by
    intro H2 M2 vv vals n hF hM hO
    have hl2 : (leaveR (b.ex n.toNat) regs vals).length = 32 := by rw [leaveR, foldR_len, hlen]
    have hc6' : H2 c6 = some ⟨Z, 0⟩ := (hF.old c6 (by rw [z6]; simp) n6).trans z6
    refine ⟨hc6', oc_len hl2, oc_put hl2 Z hZ, by rw [oc_all hl2, hO], fun X => ?_⟩
    obtain ⟨h1, k1, k2, k3⟩ := ram_cut (h := h) (hF.ram.upd (X := X) n6) (fun c hcn hl => by
      have d6 : c ≠ c6 := fun e => hcn (e ▸ hc6)
      rw [upd_ne d6, hF.old c (by rw [s6 c d6]; exact hcn) hl, s6 c d6])
    exact ⟨h1, k1, rfl, hM ▸ k2, k3⟩
  refine lpc.rel [0, 6, 9, 30, 31, 32] (fun m ρ h' => ∃ k vv vals M1, m = b.ops.length - k ∧ k ≤ b.ops.length ∧ FAt h' H6 l M1 pf b regs vv vals ∧ vals.length = k ∧ runN regs b.ops [] M = runN regs (b.ops.drop k) vals M1 ∧
    ρ = [(0, bkP b), (6, .ptr c6 0), (9, .ptr pf 0), (30, ops b.ops), (31, .int .i64 (b.ops.length : Int)), (32, .int .i64 (k : Int))]) ⟨_, 0, .nils, [], M, rfl, by omega, hF0, rfl, rfl, rfl⟩ ?_
  rintro m _ H1 ⟨k, vv, vals, M1, rfl, hk, hF, hvl, hrun, rfl⟩
  clear hb1 hb2
  simp only [push_cast, simprocAttr]
  refine ⟨fun hk2 => ?_, fun hk2 => ?_⟩
  · have hop : b.ops.getD k IOp.zero = b.op k := rfl
    refine ⟨hk2, hk2, fun c11 hc11 => ?_⟩
    rw [era_none hc11, hop]
    obtain ⟨ok1, _, _⟩ := op_ok hright k hk2
    refine (op_spec' hF (b.op k) (by rw [hvl]; exact ok1) (by omega)).mono ?_
    rintro _ H2 ⟨rfl, vv2, hF2⟩
    have hdr : b.ops.drop k = b.op k :: b.ops.drop (k + 1) := by
      rw [List.drop_eq_getElem_cons hk2]; congr 1; simp [IBk.op, hk2]
    rw [hdr] at hrun
    have hsx := step_exit hright k hk2 regs vals M1
    simp only [runN] at hrun
    generalize stepN regs (b.op k) vals M1 = S at hF2 hrun hsx ⊢
    obtain ⟨w, x, M2⟩ := S
    by_cases hx : x = -1
    · subst hx
      rw [if_pos rfl] at hrun
      simp (disch := omega) only [push_cast, simprocAttr, wrap_i64, toNat_ofInt64, Nat.min_eq_left, Int.toNat_of_nonneg]
      exact ⟨_, _, by omega, .refl _, k + 1, vv2, vals ++ [w], M2, rfl, by omega, hF2, by simp [hvl], hrun, rfl⟩
    · rw [if_neg hx] at hrun
      have hx' : (x != -1) = true := by simp [hx]
      obtain ⟨x1, x2, x3⟩ := okEx_of hright (hsx hx) (m := (vals ++ [w]).length) (by simp; omega)
      have hM : b.ramOf regs M = M2 := by rw [IBk.ramOf, hrun]
      have hO : b.outOf regs M = outC (leaveR (b.ex x.toNat) regs (vals ++ [w])) (leaveP (b.ex x.toNat) (vals ++ [w])) (b.ex x.toNat).done (b.ex x.toNat).why x := by
        simp only [IBk.outOf, IBk.exitOf, hrun, Option.getD_some]
      obtain ⟨f1, f2, f3, f4, f5⟩ := fin H2 M2 vv2 (vals ++ [w]) x hF2 hM hO
      simp only [push_cast, simprocAttr, hx]
      refine (leave_spec hF2 x x1 x2 (hmx _) x3).to ?_
      simp only [push_cast, simprocAttr, f1, f2, f3, f4, hZ]
      exact f5 _
  · obtain rfl : k = b.ops.length := by omega
    rw [List.drop_of_length_le (Nat.le_refl _), runN] at hrun
    have hM : b.ramOf regs M = M1 := by rw [IBk.ramOf, hrun]
    have hO : b.outOf regs M = outC (leaveR (b.ex b.last.toNat) regs vals) (leaveP (b.ex b.last.toNat) vals) (b.ex b.last.toNat).done (b.ex b.last.toNat).why b.last := by
      simp only [IBk.outOf, IBk.exitOf, hrun, Option.getD_none]
    have hlast : b.exit b.last b.ops.length = true := by
      simp only [IBk.right, Bool.and_eq_true] at hright
      exact hright.2
    obtain ⟨x1, x2, x3⟩ := okEx_of hright hlast (m := vals.length) (by omega)
    obtain ⟨f1, f2, f3, f4, f5⟩ := fin H1 M1 vv vals b.last hF hM hO
    refine (leave_spec hF b.last x1 x2 (hmx _) x3).to ?_
    simp only [push_cast, simprocAttr, f1, f2, f3, f4, hZ]
    exact f5 _
/-- A block that is not right; no memory. -/
theorem Do_wrong (v : AV) (hw : b.wf) (hc : b.check ≠ 0) (hlen : regs.length = 32) : Spec Tryz.prog G 27 [bkP b, .agg (wds regs), v] h (Is (.tup [.agg (outC (List.replicate 32 0) 0#32 0 0 0), .int .i64 b.check]) h) := by
  have hc' : (b.check != 0) = true := by simp [hc]
  refine Spec.is C27ok rfl ?_
  simp only [push_cast, simprocAttr]
  intro c6 hc6
  refine (Check_spec (G := G) b hw).to ?_
  simp only [push_cast, simprocAttr, hc']
  exact ⟨rfl, (Sub.refl h).alloc hc6⟩
theorem Do_nil (hw : b.wf) (hc : b.check = 0) (hlen : regs.length = 32) : Spec Tryz.prog G 27 [bkP b, .agg (wds regs), .nilp] h (Is (.tup [.agg (outC (List.replicate 32 0) 0#32 0 0 0), .int .i64 2]) h) := by
  refine Spec.is C27ok rfl ?_
  simp only [push_cast, simprocAttr]
  intro c6 hc6
  refine (Check_spec (G := G) b hw).to ?_
  rw [hc]
  simp only [push_cast, simprocAttr]
  exact ⟨rfl, (Sub.refl h).alloc hc6⟩
end
end Go.Ab
end
section
/- The laws of eval: the example, and the values of operations. -/
set_option linter.unusedSimpArgs false
set_option linter.unusedVariables false
set_option maxRecDepth 10000
namespace Go.Ab
open Go.Proofs
variable {G : Glo} {h : Heap}
theorem Spec.preN {P : Program} {f : FuncId} {a a' : AV} {r : List AV} {h h1 : Heap} {Q : AV → Heap → Prop} (hl : Le a h a' h1) (hs : Spec P G f (a' :: r) h1 Q) : Spec P G f (a :: r) h Q := by
  intro w vs k1 k2 k3
  match vs, k3 with
  | v :: s, k3 =>
    obtain ⟨x, y, z⟩ := hl w v k1 (k3.2 0 a v rfl rfl)
    have hk : Keeps w h.dom w h1.dom := ⟨Nat.le_refl _, fun b _ hn => ⟨fun hd => hd (z b (Classical.not_not.1 hn)), rfl⟩, fun _ h => h⟩
    have hr : RepL w h.dom r s := ⟨by have := k3.1; simpa using this, fun i a b h1 h2 => k3.2 (i + 1) a b (by simpa using h1) (by simpa using h2)⟩
    refine (hs w (v :: s) x (k2.keep hk) (.cons y (hr.keep hk))).mono ?_
    rintro e w' ⟨v', r, h', he, q, m1, m2, m3⟩
    exact ⟨v', r, h', he, q, m1, m2, ⟨m3.size, fun b hb hn => m3.blk b hb (z b hn), m3.cel, m3.os, m3.tape, m3.out⟩⟩
  | [], k3 => have := k3.1; simp at this
def W24 : IBk := ⟨[0], [⟨1, 0, 0, 1, 0, 0⟩, ⟨2, 0, 0, 4, 0, 0⟩, ⟨3, 0, 1, 28, 0, 0⟩], [⟨1, 4, -1, 4, [⟨1, 2⟩]⟩], 0⟩
theorem W24_check : W24.check = 0 := by decide
theorem W24_wf : W24.wf := by
  refine ⟨by decide, by decide, by decide, ?_, by decide, by decide, by decide, ?_⟩ <;> decide
def G24 : List (BitVec 32) := [0, 5, 0, 0, 0, 0, 0, 0, 0, 0, 0, 0, 0, 0, 0, 0, 0, 0, 0, 0, 0, 0, 0, 0, 0, 0, 0, 0, 0, 0, 0, 0]
def O24 : List (BitVec 32) := [0, 9, 0, 0, 0, 0, 0, 0, 0, 0, 0, 0, 0, 0, 0, 0, 0, 0, 0, 0, 0, 0, 0, 0, 0, 0, 0, 0, 0, 0, 0, 0]
theorem W24_out (M : IRam) : W24.outOf G24 M = outC O24 4 1 4 0 := by rfl
end Go.Ab
end
section
/- The laws of eval: a world, and whether a block may be done in it. -/
set_option linter.unusedSimpArgs false
set_option linter.unusedVariables false
set_option maxRecDepth 10000
namespace Go.Ab
open Go.Proofs
variable {G : Glo} {h : Heap}
structure IWd where
  regs : List (BitVec 32)
  size : Int
  b : List (BitVec 8)
  w : BitVec 16
def IWd.cells (w : IWd) : List AV := wds w.regs ++ [.int .i64 w.size, byt w.b, .int .u16 w.w.toNat]
theorem wd_at {w : IWd} (hl : w.regs.length = 32) : w.cells.length = 35 ∧ w.cells[32]? = some (.int .i64 w.size) ∧ w.cells[33]? = some (byt w.b) ∧ w.cells[34]? = some (.int .u16 w.w.toNat) ∧ w.cells[0]? = some (.int .u32 (w.regs.getD 0 0#32).toNat) := by
  have hw : (wds w.regs).length = 32 := by simp [wds, hl]
  refine ⟨by simp [IWd.cells, hw], ?_, ?_, ?_, ?_⟩
  · rw [IWd.cells, List.getElem?_append_right (by omega), hw]; rfl
  · rw [IWd.cells, List.getElem?_append_right (by omega), hw]; rfl
  · rw [IWd.cells, List.getElem?_append_right (by omega), hw]; rfl
  · rw [IWd.cells, List.getElem?_append_left (by omega), wds_get, if_pos (by omega)]
def lightW (b : IBk) (w : IWd) : Bool := !(decide (b.pcs.length > 100) || decide (b.ops.length > 600) || decide (b.exits.length > 200) || !rightN w.size || decide (w.size > 1024) || decide ((w.b.length : Int) > w.size) || (w.regs.getD 0 0#32 != 0#32))
def light24 (b : IBk) (w : IWd) : Bool := lightW b w && allN b.exits.length fun i => decide ((b.exits.getD i IEx.zero).map.length ≤ 100)
theorem lightW_iff (b : IBk) (w : IWd) : lightW b w = true ↔ b.pcs.length ≤ 100 ∧ b.ops.length ≤ 600 ∧ b.exits.length ≤ 200 ∧ rightN w.size = true ∧ w.size ≤ 1024 ∧ (w.b.length : Int) ≤ w.size ∧ w.regs.getD 0 0#32 = 0#32 := by
  simp only [lightW, Bool.not_eq_true', Bool.or_eq_false_iff, decide_eq_false_iff_not, bne_eq_false_iff_eq, Bool.not_eq_false']
  constructor
  · rintro ⟨⟨⟨⟨⟨⟨h1, h2⟩, h3⟩, h4⟩, h5⟩, h6⟩, h7⟩
    exact ⟨by omega, by omega, by omega, h4, by omega, by omega, h7⟩
  · rintro ⟨h1, h2, h3, h4, h5, h6, h7⟩
    exact ⟨⟨⟨⟨⟨⟨by omega, by omega⟩, by omega⟩, h4⟩, by omega⟩, by omega⟩, h7⟩
theorem bv0 (x : BitVec 32) : ((x.toNat : Int) = 0) ↔ x = 0#32 := by
  constructor
  · intro h
    apply BitVec.eq_of_toNat_eq
    simp; omega
  · rintro rfl; rfl
theorem rRight10_spec (n : Int) : Spec Tryz.prog G 78 [.int .i64 n] h (Is (.bool (rightN n)) h) := by
  have hN : rightN n = (decide (64 ≤ n) && decide (n ≤ 65536) && decide (n % 64 = 0)) := rfl
  generalize rightN n = N at hN ⊢
  refine Spec.is C78ok rfl ?_
  simp only [push_cast, simprocAttr]
  rw [hN]
  by_cases h64 : 64 ≤ n
  · rw [Int.tmod_eq_emod_of_nonneg (by omega)]
    (first | rfl | (congr 1; done) | (congr 1; rw [Bool.eq_iff_iff]; simp only [Bool.and_eq_true, Bool.or_eq_true, Bool.not_eq_true', decide_eq_true_eq, decide_eq_false_iff_not, Bool.false_eq_true, true_and, and_true]; first | omega | grind))
  · have : ¬ n ≥ 64 := h64
    simp [h64, this]
theorem light24_facts {b : IBk} {w : IWd} (h : light24 b w = true) : b.wf ∧ b.ops.length ≤ 600 ∧ b.exits.length ≤ 200 ∧ b.pcs.length ≤ 100 ∧ (∀ e ∈ b.exits, e.map.length ≤ 100) ∧ ∃ n : Nat, w.size = n ∧ rightN n = true ∧ n ≤ 1024 ∧ w.b.length ≤ n ∧ w.regs.getD 0 0#32 = 0#32 := by
  simp only [light24, Bool.and_eq_true] at h
  obtain ⟨h1, h2⟩ := h
  obtain ⟨e1, e2, e3, e4, e5, e6, e7⟩ := (lightW_iff b w).1 h1
  have hm : ∀ e ∈ b.exits, e.map.length ≤ 100 := by
    intro e he
    obtain ⟨i, hi, rfl⟩ := List.getElem_of_mem he
    have := allN_get h2 i hi
    simpa [hi] using this
  have e4' := e4
  simp only [rightN, Bool.and_eq_true, decide_eq_true_eq] at e4'
  obtain ⟨n, hn⟩ : ∃ n : Nat, w.size = n := ⟨w.size.toNat, by omega⟩
  refine ⟨⟨by omega, by omega, by omega, fun e he => by have := hm e he; omega, by omega, by omega, by omega, fun e he => by have := hm e he; omega⟩, e2, e3, e1, hm, n, hn, hn ▸ e4, by omega, by omega, e7⟩
end Go.Ab
end
section
/- The laws of eval: the program's memory of a world. -/
set_option linter.unusedSimpArgs false
set_option linter.unusedVariables false
set_option maxRecDepth 10000
namespace Go.Ab
open Go.Proofs
variable {G : Glo} {h : Heap}
@[push_cast] theorem abin_and_u16 (a b : Int) : abin .and (.int .u16 a) (.int .u16 b) = some (.int .u16 ((BitVec.ofInt 16 a &&& BitVec.ofInt 16 b).toNat : Int)) := by
  show (if IntKind.u16 = IntKind.u16 then some (AV.int .u16 (IntKind.u16.wrap ((BitVec.ofInt 16 a &&& BitVec.ofInt 16 b).toNat : Int))) else none) = _
  rw [if_pos rfl, wr_u16, ofInt_toNat, BitVec.setWidth_eq]
def wdW (w : BitVec 16) (n k : Nat) : List Bool := (List.range n).map fun i => decide (i < k) && w.getLsbD i
def wdB (w : IWd) (n : Nat) : List (BitVec 8) := w.b ++ List.replicate (n - w.b.length) 0
def wdM (w : IWd) (n k : Nat) : IRam := ⟨wdB w n, wdW w.w (n / 64) k, List.replicate (n / 64) 0⟩
theorem wdW_len (w : BitVec 16) (n k : Nat) : (wdW w n k).length = n := by simp [wdW]
theorem wdW_0 (w : BitVec 16) (n : Nat) : wdW w n 0 = List.replicate n false := by
  apply List.ext_getElem?
  intro i
  simp [wdW, List.getElem?_replicate]
  split <;> simp [*]
theorem wdW_S (w : BitVec 16) (n k : Nat) : wdW w n (k + 1) = if w.getLsbD k then (wdW w n k).set k true else wdW w n k := by
  apply List.ext_getElem?
  intro i
  by_cases hi : i < n
  · by_cases hb : w.getLsbD k = true
    · rw [if_pos hb, List.getElem?_set]
      by_cases e : k = i
      · subst e; simp [wdW, hi, hb]
      · rw [if_neg e]
        have : (i < k + 1) ↔ i < k := by omega
        simp [wdW, hi, this]
    · rw [if_neg hb]
      by_cases e : k = i
      · subst e; simp [wdW, hi, hb]
      · have : (i < k + 1) ↔ i < k := by omega
        simp [wdW, hi, this]
  · rw [List.getElem?_eq_none (by simp [wdW]; omega), List.getElem?_eq_none (by split <;> simp [wdW] <;> omega)]
theorem wd_fill {w : IWd} {n : Nat} (hn : rightN n = true) (hb : w.b.length ≤ n) : fillE (IRam.new n).b.length 2147483648#32 w.b.length = 0 ∧ (IRam.new n).fill 2147483648#32 w.b = wdM w n 0 := by
  simp only [rightN, Bool.and_eq_true, decide_eq_true_eq] at hn
  have hl : (IRam.new n).b.length = n := by simp [IRam.new]
  have ha : (2147483648#32).toNat = 2147483648 := rfl
  have hM : wdM w n 0 = ⟨wdB w n, List.replicate (n / 64) false, List.replicate (n / 64) 0⟩ := by rw [wdM, wdW_0]
  rw [hl, hM]
  by_cases h0 : w.b.length = 0
  · refine ⟨by rw [fillE, if_pos h0], ?_⟩
    rw [IRam.fill, if_neg (fun q => q.1 h0)]
    have : w.b = [] := List.length_eq_zero_iff.1 h0
    simp [IRam.new, wdB, this]
  · have hh : hasN n 2147483648#32 w.b.length = true := by simp only [hasN, Bool.and_eq_true, decide_eq_true_eq, ha]; omega
    refine ⟨by rw [fillE, if_neg h0, if_pos hh], ?_⟩
    rw [IRam.fill, hl, if_pos ⟨h0, hh⟩, ha]
    simp [IRam.put, IRam.new, wdB]
/-- A memory that a function makes. -/
def MemTo (h : Heap) (M : IRam) (r : AV) (h' : Heap) : Prop := ∃ l : Pl, r = .ptr l.p 0 ∧ RamAt h' l M ∧ (∀ c, l.has c → h c = none) ∧ ∀ c, ¬ l.has c → h' c = h c
theorem bit16 (w : BitVec 16) (k : Nat) : ((w >>> k &&& 1#16).toNat : Int) = (if w.getLsbD k then 1 else 0) := by
  have : w >>> k &&& 1#16 = if w.getLsbD k then 1#16 else 0#16 := by
    ext i hi
    simp
    by_cases e : i = 0
    · subst e; split <;> simp_all
    · split <;> simp [e] <;> intro h1 <;> omega
  rw [this]
  split <;> rfl
end Go.Ab
end
section
/- The document's memory: made anew, and bytes laid. -/
set_option linter.unusedSimpArgs false
set_option linter.unusedVariables false
set_option maxRecDepth 10000
namespace Go.Ab
open Go.Proofs
variable {G : Glo} {h : Heap}
/-- A part of a composite that is a row of one's own becomes data that stays. -/
theorem Le.aggf {g : Heap} {b n cap i : Nat} {cells : List AV} {L : List AV} {sp : Nat} (hi : L[i]? = some (.sl b 0 n cap)) (hb : g b = none) (h0 : n = 0 → cells = []) : Le (.agg L) (upd g b ⟨cells, sp⟩) (.agg (L.set i (.ro cells n))) g := by
  intro w v hw hr
  obtain ⟨cs, rfl, hl, h1, hr1⟩ := rep_agg hr
  have hsub : Sub g (upd g b ⟨cells, sp⟩) := (Sub.refl g).alloc hb
  obtain ⟨l1, _⟩ := hrep_less hw hsub
  have hk : Keeps w (upd g b ⟨cells, sp⟩).dom w g.dom := ⟨Nat.le_refl _, fun c _ hn => ⟨fun hd => hn fun e => hd (hsub.none e), rfl⟩, fun _ h => h⟩
  refine ⟨l1, .agg _ _ (by simpa using hl) h1 fun j u c e1 e2 => ?_, fun c hc => hsub.none hc⟩
  rw [List.getElem?_set] at e1
  split at e1
  · rename_i hij
    subst hij
    split at e1
    · cases e1
      exact (Le.freeze (pre := []) hb h0 w c hw (hr1 i _ c hi e2)).2.1
    · cases e1
  · exact (hr1 j u c e1 e2).keep hk
/-- Three rows of one's own. -/
def rowsH (h : Heap) (b w g : Nat) (M : IRam) : Heap := upd (upd (upd h b ⟨bys M.b, 0⟩) w ⟨bos M.w, 0⟩) g ⟨qws M.g, 0⟩
def RowsTo (h : Heap) (M : IRam) (r : AV) (h' : Heap) : Prop := ∃ b w g, (b ≠ w ∧ b ≠ g ∧ w ≠ g) ∧ (h b = none ∧ h w = none ∧ h g = none) ∧
  r = .agg [.sl b 0 M.b.length M.b.length, .sl w 0 M.w.length M.w.length, .sl g 0 M.g.length M.g.length] ∧ h' = rowsH h b w g M
end Go.Ab
end
section
/- The document's memory of a world. -/
set_option linter.unusedSimpArgs false
set_option linter.unusedVariables false
set_option maxRecDepth 10000
namespace Go.Ab
open Go.Proofs
variable {G : Glo} {h : Heap}
/-- A heap without a block. -/
def del (h : Heap) (b : Nat) : Heap := fun c => if c = b then none else h c
theorem del_at {h : Heap} {b c : Nat} : del h b c = if c = b then none else h c := rfl
theorem del_ne {h : Heap} {b c : Nat} (hc : c ≠ b) : del h b c = h c := if_neg hc
theorem upd_del {h : Heap} {b : Nat} {x : Blk} (hb : h b = some x) : h = upd (del h b) b x := by
  funext c
  simp only [upd_at, del_at]
  split
  · rename_i e; rw [e, hb]
  · rfl
theorem Le.own {h : Heap} {b n cap : Nat} {cells : List AV} {sp : Nat} (hb : h b = some ⟨cells, sp⟩) (h0 : n = 0 → cells = []) : Le (.sl b 0 n cap) h (.ro cells n) (del h b) := by
  have := Le.freeze (g := del h b) (b := b) (n := n) (cap := cap) (pre := []) (cells := cells) (sp := sp) (by simp [del_at]) h0
  rw [List.nil_append, ← upd_del hb] at this
  exact this
theorem Le.aggd {h : Heap} {b n cap i : Nat} {cells : List AV} {L : List AV} {sp : Nat} (hi : L[i]? = some (.sl b 0 n cap)) (hb : h b = some ⟨cells, sp⟩) (h0 : n = 0 → cells = []) : Le (.agg L) h (.agg (L.set i (.ro cells n))) (del h b) := by
  have := Le.aggf (g := del h b) (cells := cells) (sp := sp) hi (by simp [del_at]) h0
  rw [← upd_del hb] at this
  exact this
theorem Le.less {r : AV} {h g : Heap} (hs : Sub g h) : Le r h r g := by
  intro w v hw hr
  obtain ⟨l1, l2⟩ := hrep_less hw hs
  exact ⟨l1, hr.keep ⟨Nat.le_refl _, fun c _ hn => ⟨fun hd => hn fun e => hd (hs.none e), rfl⟩, fun _ h => h⟩, fun c hc => hs.none hc⟩
def IRam.cells (M : IRam) : List AV := [byt M.b, .ro (bos M.w) M.w.length, .ro (qws M.g) M.g.length]
abbrev ramV (M : IRam) : AV := .agg M.cells
theorem rPut_spec (b x : List (BitVec 8)) (addr : BitVec 32) (ha : 2147483648 ≤ addr.toNat) (hl : addr.toNat - 2147483648 + x.length ≤ b.length) (hb : b.length ≤ 65536) :
    Spec Tryz.prog G 88 [byt b, .int .u32 addr.toNat, byt x] h (Is (byt (b.take (addr.toNat - 2147483648) ++ x ++ b.drop (addr.toNat - 2147483648 + x.length))) h) := by
  have hlt := addr.isLt
  have hc : (BitVec.ofInt 64 (addr.toNat : Int)).toNat = addr.toNat := by
    rw [BitVec.ofInt_natCast, BitVec.toNat_ofNat, Nat.mod_eq_of_lt (by omega)]
  obtain ⟨k, hk⟩ : ∃ k, addr.toNat - 2147483648 = k := ⟨_, rfl⟩
  have hk' : (addr.toNat : Int) - 2147483648 = k := by omega
  rw [hk] at hl ⊢
  have q1 : (k : Int) ≤ b.length := by omega
  have q2 : (0 : Int) ≤ (k : Int) + x.length := by omega
  have q3 : (k : Int) + x.length ≤ b.length := by omega
  have q4 : ((k : Int) + x.length).toNat = k + x.length := by omega
  have q5 : List.take (b.length - (k + x.length)) (List.drop (k + x.length) (bys b)) = bys (b.drop (k + x.length)) := by
    rw [bys_drop, List.take_of_length_le (by simp [bys])]
  have q6 : (bys (b.drop (k + x.length))).length = b.length - (k + x.length) := by simp [bys]
  have q7 : List.take k (bys b) = bys (b.take k) := by rw [bys_take]
  have q8 : (bys (b.take k)).length = k := by simp [bys]; omega
  refine Spec.weak (Q := fun r h' => Own 1 h r (bys (b.take k ++ x ++ b.drop (k + x.length))) b.length h') ?_ ?_
  · refine Spec.walk C88ok rfl ?_
    simp (disch := omega) only [push_cast, simprocAttr, wrap_i64, toNat_ofInt64, Nat.min_eq_left, Int.toNat_of_nonneg, hk', byt, q1, q2, q3, q4, q5, q6, q7, q8]
    intro c hc
    have o0 : Own 1 h (.sl c 0 0 0) (bys []) 0 (upd h c ⟨[], 0⟩) := .row c 0 0 [] [] 0 hc rfl (by omega)
    refine o0.app (m := k) (by simp [q8]) (by omega) (by omega) fun v1 h1 o1 => ?_
    simp (disch := omega) only [push_cast, simprocAttr, wrap_i64, toNat_ofInt64, Nat.min_eq_left, Int.toNat_of_nonneg, hk', byt, q1, q2, q3, q4, q5, q6, q7, q8]
    refine o1.app (m := x.length) (by simp [bys]) (by omega) (by omega) fun v2 h2 o2 => ?_
    simp (disch := omega) only [push_cast, simprocAttr, wrap_i64, toNat_ofInt64, Nat.min_eq_left, Int.toNat_of_nonneg, hk', byt, q1, q2, q3, q4, q5, q6, q7, q8]
    refine o2.app (m := b.length - (k + x.length)) (by simp [q6]) (by omega) (by omega) fun v3 h3 o3 => ?_
    simp (disch := omega) only [push_cast, simprocAttr, wrap_i64, toNat_ofInt64, Nat.min_eq_left, Int.toNat_of_nonneg, hk', byt, q1, q2, q3, q4, q5, q6, q7, q8]
    rw [show 0 + k + x.length + (b.length - (k + x.length)) = b.length by omega] at o3
    simpa [bys] using o3
  · rintro _ h' ho
    have hl2 : (b.take k ++ x ++ b.drop (k + x.length)).length = b.length := by simp; omega
    exact ⟨_, _, ⟨rfl, rfl⟩, by rw [byt, hl2]; exact ho.freeze⟩
def PgV (h F : Heap) (n : Nat) (B : List (BitVec 8)) (rw g : Nat) (bv : AV) : Prop := bv = byt B ∨ ∃ b, bv = .sl b 0 n n ∧ F b = some ⟨bys B, 0⟩ ∧ b ≠ rw ∧ b ≠ g ∧ h b = none
def PgQ (h : Heap) (n : Nat) (M : IRam) (r : AV) (F : Heap) : Prop := ∃ bv rw g, r = .agg [bv, .sl rw 0 M.w.length M.w.length, .sl g 0 M.g.length M.g.length] ∧ rw ≠ g ∧ F rw = some ⟨bos M.w, 0⟩ ∧ F g = some ⟨qws M.g, 0⟩ ∧
  PgV h F n M.b rw g bv ∧ (h rw = none ∧ h g = none) ∧ Sub h F
theorem pgQ_le {n : Nat} {M : IRam} {r : AV} {F : Heap} (hn : M.b.length = n) (hq : PgQ h n M r F) : Le r F (ramV M) h := by
  obtain ⟨bv, rw', g, rfl, hne, h1, h2, h3, ⟨h4, h5⟩, h6⟩ := hq
  have e1 : Le (.agg [bv, .sl rw' 0 M.w.length M.w.length, .sl g 0 M.g.length M.g.length]) F (.agg [bv, .ro (bos M.w) M.w.length, .sl g 0 M.g.length M.g.length]) (del F rw') :=
    Le.aggd (i := 1) (L := [bv, .sl rw' 0 M.w.length M.w.length, .sl g 0 M.g.length M.g.length]) rfl h1 (fun e => by simp [bos, List.length_eq_zero_iff.1 e])
  have e2 : Le (.agg [bv, .ro (bos M.w) M.w.length, .sl g 0 M.g.length M.g.length]) (del F rw') (.agg [bv, .ro (bos M.w) M.w.length, .ro (qws M.g) M.g.length]) (del (del F rw') g) :=
    Le.aggd (i := 2) (L := [bv, .ro (bos M.w) M.w.length, .sl g 0 M.g.length M.g.length]) rfl (sp := 0) (by rw [del_ne (Ne.symm hne)]; exact h2) (fun e => by simp [qws, List.length_eq_zero_iff.1 e])
  refine le_trans e1 (le_trans e2 ?_)
  rcases h3 with rfl | ⟨b, rfl, h7, h8, h9, h10⟩
  · refine Le.less fun c x hc => ?_
    rw [del_ne (fun e => by rw [e, h5] at hc; cases hc), del_ne (fun e => by rw [e, h4] at hc; cases hc)]
    exact h6 c x hc
  · have e3 : Le (.agg [.sl b 0 n n, .ro (bos M.w) M.w.length, .ro (qws M.g) M.g.length]) (del (del F rw') g) (.agg [.ro (bys M.b) n, .ro (bos M.w) M.w.length, .ro (qws M.g) M.g.length]) (del (del (del F rw') g) b) :=
      Le.aggd (i := 0) (L := [.sl b 0 n n, .ro (bos M.w) M.w.length, .ro (qws M.g) M.g.length]) rfl (sp := 0) (by rw [del_ne h9, del_ne h8]; exact h7) (fun e => by simp [bys, List.length_eq_zero_iff.1 (hn.trans e)])
    refine le_trans e3 ?_
    rw [ramV, IRam.cells, byt, hn]
    refine Le.less fun c x hc => ?_
    rw [del_ne (fun e => by rw [e, h10] at hc; cases hc), del_ne (fun e => by rw [e, h5] at hc; cases hc), del_ne (fun e => by rw [e, h4] at hc; cases hc)]
    exact h6 c x hc
theorem wdW_all (w : BitVec 16) (n : Nat) (hn : n ≤ 16) : wdW w n n = wdW w n 16 := by
  apply List.ext_getElem?
  intro i
  by_cases hi : i < n
  · have : i < 16 := by omega
    simp [wdW, hi, this]
  · rw [List.getElem?_eq_none (by simp [wdW]; omega), List.getElem?_eq_none (by simp [wdW]; omega)]
end Go.Ab
end
section
/- Parts of an image, arrivals: what the document asks of them. -/
set_option linter.unusedSimpArgs false
set_option linter.unusedVariables false
set_option maxRecDepth 10000
namespace Go.Ab
open Go.Proofs
variable {G : Glo} {h : Heap}
def cutS (l : List IPart) (k : Nat) : Nat := ((l.take k).map fun p => min p.b.length 100000).sum
theorem cutS_step (l : List IPart) (k : Nat) (hk : k < l.length) : cutS l (k + 1) = cutS l k + min (l.getD k IPart.zero).b.length 100000 := by
  rw [cutS, List.take_succ_eq_append_getElem hk, List.map_append, List.sum_append]
  simp [cutS, hk]
theorem cutS_mono (l : List IPart) (k j : Nat) : cutS l k ≤ cutS l (k + j) := by
  induction j with
  | zero => exact Nat.le_refl _
  | succ j ih =>
    by_cases hk : k + j < l.length
    · rw [← Nat.add_assoc, cutS_step l _ hk]; omega
    · have : cutS l (k + (j + 1)) = cutS l (k + j) := by
        rw [cutS, cutS, List.take_of_length_le (by omega), List.take_of_length_le (by omega)]
      omega
def longN (l : List IPart) : Bool := decide (65536 < cutS l l.length)
theorem rlong_spec (l : List IPart) (hl : l.length ≤ 1000) : Spec Tryz.prog G 112 [.ro (partC l) l.length] h (Is (.bool (longN l)) h) := by
  have hL : longN l = decide (65536 < cutS l l.length) := rfl
  generalize longN l = L at *
  refine Spec.is C112ok rfl ?_
  simp only [push_cast, simprocAttr]
  refine lpc.rel [0, 3, 4] (fun m ρ h' => ∃ k : Nat, m = l.length - k ∧ k ≤ l.length ∧ h = h' ∧ cutS l k ≤ 65536 ∧ ρ = [(0, .ro (partC l) l.length), (3, .int .i64 (cutS l k : Nat)), (4, .int .i64 (k : Int))]) ⟨_, 0, rfl, by omega, rfl, by simp [cutS], rfl⟩ ?_
  rintro m _ _ ⟨k, rfl, hk, rfl, hs, rfl⟩
  have hstep := cutS_step l k
  have hmono := cutS_mono l (k + 1) (l.length - (k + 1))
  by_cases hk2 : k < l.length
  · rw [show k + 1 + (l.length - (k + 1)) = l.length by omega] at hmono
    have hstep := hstep hk2
    generalize hn1 : cutS l (k + 1) = n1 at *
    generalize cutS l k = n0 at *
    generalize hb : (l.getD k IPart.zero).b.length = bl at *
    simp (disch := omega) only [push_cast, simprocAttr, wrap_i64, toNat_ofInt64, Nat.min_eq_left, Int.toNat_of_nonneg, hk2, hb]
    have he : ((n0 : Int) + if 100000 < (bl : Int) then 100000 else (bl : Int)) = (n1 : Int) := by rw [hstep]; split <;> omega
    rw [he]
    refine ⟨fun hv => ?_, fun hv => ⟨_, _, by omega, .refl _, k + 1, rfl, by omega, rfl, by omega, ?_⟩⟩
    · rw [hL, decide_eq_true (by omega)]
    · have : cutS l (k + 1) = n1 := hn1
      rw [this]; rfl
  · obtain rfl : k = l.length := by omega
    have q : ¬ (l.length < l.length) := by omega
    simp only [push_cast, simprocAttr, q]
    first | (intro hv; exact absurd hv q) | (rw [hL, decide_eq_false (by omega)])
theorem getP {l : List IPart} {n : Nat} (hp : ∀ p ∈ l, p.b.length ≤ n) (k : Nat) : (l.getD k IPart.zero).b.length ≤ n := by
  by_cases hn : k < l.length
  · have : l.getD k IPart.zero = l[k] := by simp [hn]
    rw [this]
    exact hp _ (List.getElem_mem _)
  · have : l.getD k IPart.zero = IPart.zero := by simp [Nat.le_of_not_lt hn]
    rw [this]; exact Nat.zero_le _
/-- Are parts inside of a memory? -/
def partOk (len : Nat) (p : IPart) : Bool := decide (p.b.length = 0) || hasN len p.at_ p.b.length
def checkP (l : List IPart) (len : Nat) : Int := if longN l then 3 else if allN l.length (fun i => partOk len (l.getD i IPart.zero)) then 0 else 6
theorem rCheckP_spec (l : List IPart) (b : List (BitVec 8)) (hl : l.length ≤ 1000) (hb : b.length ≤ 65536) (hp : ∀ p ∈ l, p.b.length ≤ 9223372036854775807) : Spec Tryz.prog G 79 [.ro (partC l) l.length, byt b] h (Is (.int .i64 (checkP l b.length)) h) := by
  have hL := rlong_spec (G := G) (h := h) l hl
  have hA : checkP l b.length = if longN l then 3 else if allN l.length (fun i => partOk b.length (l.getD i IPart.zero)) then 0 else 6 := rfl
  generalize checkP l b.length = X at *
  cases hlo : longN l with
  | true =>
    rw [hlo] at hL hA
    rw [hA]
    refine Spec.is C79ok rfl ?_
    simp only [push_cast, simprocAttr]
    refine hL.to ?_
    simp only [push_cast, simprocAttr]
  | false =>
    rw [hlo] at hL hA
    rw [if_neg (by simp)] at hA
    refine Spec.is C79ok rfl ?_
    simp only [push_cast, simprocAttr]
    refine hL.to ?_
    simp only [push_cast, simprocAttr]
    refine lpc.rel [0, 1, 5] (fun m ρ h' => ∃ k : Nat, m = l.length - k ∧ k ≤ l.length ∧ h = h' ∧ (∀ i, i < k → partOk b.length (l.getD i IPart.zero) = true) ∧ ρ = [(0, .ro (partC l) l.length), (1, byt b), (5, .int .i64 (k : Int))]) ⟨_, 0, rfl, by omega, rfl, by intro i hi; omega, rfl⟩ ?_
    rintro m _ _ ⟨k, rfl, hk, rfl, hall, rfl⟩
    have hO : partOk b.length (l.getD k IPart.zero) = (decide ((l.getD k IPart.zero).b.length = 0) || hasN b.length (l.getD k IPart.zero).at_ (l.getD k IPart.zero).b.length) := rfl
    have hx : ∀ i, i < k + 1 → partOk b.length (l.getD k IPart.zero) = true → partOk b.length (l.getD i IPart.zero) = true := fun i hi e => by
      by_cases hik : i = k
      · subst hik; exact e
      · exact hall i (by omega)
    by_cases hk2 : k < l.length
    · have hpl : (l.getD k IPart.zero).b.length ≤ 9223372036854775807 := getP hp k
      have hH := rHas_spec (G := G) (h := h) b (l.getD k IPart.zero).at_ ((l.getD k IPart.zero).b.length : Nat) hb (by omega) (by omega)
      generalize hgp : l.getD k IPart.zero = p at *
      by_cases h0 : p.b.length = 0
      · simp (disch := omega) only [push_cast, simprocAttr, wrap_i64, toNat_ofInt64, Nat.min_eq_left, Int.toNat_of_nonneg, hk2, hgp, h0]
        refine ⟨_, _, by omega, .refl _, k + 1, rfl, by omega, rfl, fun i hi => hx i hi ?_, rfl⟩
        rw [hO, decide_eq_true h0, Bool.true_or]
      · have h0' : (p.b.length : Int) > 0 := by omega
        simp only [push_cast, simprocAttr, hk2, hgp, h0']
        refine hH.to ?_
        cases hh : hasN b.length p.at_ p.b.length with
        | true =>
          simp (disch := omega) only [push_cast, simprocAttr, wrap_i64, toNat_ofInt64, Nat.min_eq_left, Int.toNat_of_nonneg]
          refine ⟨_, _, by omega, .refl _, k + 1, rfl, by omega, rfl, fun i hi => hx i hi ?_, rfl⟩
          rw [hO, hh, Bool.or_true]
        | false =>
          simp only [push_cast, simprocAttr]
          have := allN_false (n := l.length) (p := fun i => partOk b.length (l.getD i IPart.zero)) k hk2 (by show partOk b.length (l.getD k IPart.zero) = false; rw [hgp, hO, hh, decide_eq_false h0]; rfl)
          rw [hA, this]; rfl
    · obtain rfl : k = l.length := by omega
      have q : ¬ (l.length < l.length) := by omega
      simp only [push_cast, simprocAttr, q]
      rw [hA, allN_true hall]; rfl
/-- Parts that are laid. -/
def putP (b : List (BitVec 8)) (p : IPart) : List (BitVec 8) := if p.b.length = 0 then b else b.take (p.at_.toNat - 2147483648) ++ p.b ++ b.drop (p.at_.toNat - 2147483648 + p.b.length)
def layN (b : List (BitVec 8)) (l : List IPart) : List (BitVec 8) := l.foldl putP b
theorem putP_len (b : List (BitVec 8)) (p : IPart) (h : partOk b.length p = true) : (putP b p).length = b.length := by
  rw [putP]
  split
  · rfl
  · next h0 =>
    simp only [partOk, Bool.or_eq_true, decide_eq_true_eq, hasN, Bool.and_eq_true] at h
    have := p.at_.isLt
    simp
    omega
theorem lay_len (l : List IPart) (b : List (BitVec 8)) (h : ∀ p ∈ l, partOk b.length p = true) : (layN b l).length = b.length := by
  induction l generalizing b with
  | nil => rfl
  | cons p r ih =>
    have h1 := putP_len b p (h p (by simp))
    rw [layN, List.foldl_cons]
    have := ih (putP b p) (by rw [h1]; exact fun q hq => h q (by simp [hq]))
    rw [layN, h1] at this
    exact this
theorem lay_step (l : List IPart) (b : List (BitVec 8)) (k : Nat) (hk : k < l.length) : layN b (l.take (k + 1)) = putP (layN b (l.take k)) (l.getD k IPart.zero) := by
  rw [layN, List.take_succ_eq_append_getElem hk, List.foldl_append]
  simp [layN, hk]
theorem rLay_spec (l : List IPart) (b : List (BitVec 8)) (hl : l.length ≤ 1000) (hb : b.length ≤ 65536) (hok : ∀ p ∈ l, partOk b.length p = true) : Spec Tryz.prog G 56 [byt b, .ro (partC l) l.length] h (Is (byt (layN b l)) h) := by
  refine Spec.is C56ok rfl ?_
  simp only [push_cast, simprocAttr]
  refine lpc.rel [0, 1, 5] (fun m ρ h' => ∃ k : Nat, m = l.length - k ∧ k ≤ l.length ∧ h = h' ∧ ρ = [(0, byt (layN b (l.take k))), (1, .ro (partC l) l.length), (5, .int .i64 (k : Int))]) ⟨_, 0, rfl, by omega, rfl, rfl⟩ ?_
  rintro m _ _ ⟨k, rfl, hk, rfl, rfl⟩
  have hlen := lay_len (l.take k) b (fun p hp => hok p (List.mem_of_mem_take hp))
  have hst := lay_step l b k
  generalize hbb : layN b (l.take k) = bb at *
  by_cases hk2 : k < l.length
  · have hst := hst hk2
    have hpk : partOk bb.length (l.getD k IPart.zero) = true := by
      have : l.getD k IPart.zero = l[k] := by simp [hk2]
      rw [hlen, this]; exact hok _ (List.getElem_mem _)
    generalize hgp : l.getD k IPart.zero = p at *
    by_cases h0 : p.b.length = 0
    · rw [putP, if_pos h0] at hst
      simp (disch := omega) only [push_cast, simprocAttr, wrap_i64, toNat_ofInt64, Nat.min_eq_left, Int.toNat_of_nonneg, hk2, hgp, h0]
      refine ⟨_, _, by omega, .refl _, k + 1, rfl, by omega, rfl, ?_⟩
      rw [hst]; rfl
    · have h0' : (p.b.length : Int) > 0 := by omega
      rw [putP, if_neg h0] at hst
      have hpt := p.at_.isLt
      simp only [partOk, Bool.or_eq_true, decide_eq_true_eq, hasN, Bool.and_eq_true, h0, false_or] at hpk
      simp only [push_cast, simprocAttr, hk2, hgp, h0']
      refine (rPut_spec bb p.b p.at_ (by omega) (by omega) (by omega)).to ?_
      simp (disch := omega) only [push_cast, simprocAttr, wrap_i64, toNat_ofInt64, Nat.min_eq_left, Int.toNat_of_nonneg]
      refine ⟨_, _, by omega, .refl _, k + 1, rfl, by omega, rfl, ?_⟩
      rw [hst]; rfl
  · obtain rfl : k = l.length := by omega
    have q : ¬ (l.length < l.length) := by omega
    have e : layN b l = bb := by rw [← hbb, List.take_length]
    rw [e]
    simp only [push_cast, simprocAttr, q]
/-- Arrivals: too many, out of order, or right. -/
def riseN (l : List IArr) (i : Nat) : Bool := decide (i = 0) || decide ((l.getD (i - 1) IArr.zero).tick.toNat ≤ (l.getD i IArr.zero).tick.toNat)
def rightA (l : List IArr) : Int := if 256 < l.length then 3 else if allN l.length (riseN l) then 0 else 1
theorem rRight12_spec (l : List IArr) : Spec Tryz.prog G 80 [arrs l] h (Is (.int .i64 (rightA l)) h) := by
  have hA : rightA l = if 256 < l.length then 3 else if allN l.length (riseN l) then 0 else 1 := rfl
  generalize rightA l = X at *
  by_cases hbig : 256 < l.length
  · rw [if_pos hbig] at hA
    have q : (l.length : Int) > 256 := by omega
    rw [hA]
    refine Spec.is C80ok rfl ?_
    simp only [push_cast, simprocAttr, q]
  · rw [if_neg hbig] at hA
    have q : ¬ (l.length : Int) > 256 := by omega
    have hr1 : ∀ i, i < 1 → riseN l i = true := fun i hi => by
      have h0 : i = 0 := by omega
      rw [h0]; rfl
    refine Spec.is C80ok rfl ?_
    simp only [push_cast, simprocAttr, q]
    refine lpc.rel [0, 3] (fun m ρ h' => ∃ k : Nat, m = l.length - k ∧ 1 ≤ k ∧ (k ≤ l.length ∨ k = 1) ∧ h = h' ∧ (∀ i, i < k → riseN l i = true) ∧ ρ = [(0, arrs l), (3, .int .i64 (k : Int))]) ⟨_, 1, rfl, by omega, .inr rfl, rfl, hr1, rfl⟩ ?_
    rintro m _ _ ⟨k, rfl, hk1, hk, rfl, hall, rfl⟩
    by_cases hk2 : k < l.length
    · obtain ⟨j, hkj⟩ : ∃ j, k = j + 1 := ⟨k - 1, by omega⟩
      have hR : riseN l k = decide ((l.getD j IArr.zero).tick.toNat ≤ (l.getD k IArr.zero).tick.toNat) := by
        rw [riseN, decide_eq_false (by omega), Bool.false_or, show k - 1 = j by omega]
      have hj : j < l.length := by omega
      have ew : IntKind.i64.wrap ((k : Int) - 1) = (j : Int) := by rw [wrap_i64 (by omega) (by omega)]; omega
      have ew2 : IntKind.i64.wrap ((k : Int) + 1) = ((k + 1 : Nat) : Int) := by rw [wrap_i64 (by omega) (by omega)]; omega
      generalize hg1 : l.getD j IArr.zero = a1 at *
      generalize hg2 : l.getD k IArr.zero = a2 at *
      by_cases hlt : a2.tick.toNat < a1.tick.toNat
      · simp only [push_cast, simprocAttr, hk2, hj, ew, hg1, hg2, hlt]
        rw [hA, allN_false k hk2 (by rw [hR]; exact decide_eq_false (by omega))]; rfl
      · simp only [push_cast, simprocAttr, hk2, hj, ew, ew2, hg1, hg2, hlt]
        refine ⟨_, _, by omega, .refl _, k + 1, rfl, by omega, .inl (by omega), rfl, fun i hi => ?_, rfl⟩
        by_cases hik : i = k
        · subst hik; rw [hR]; exact decide_eq_true (by omega)
        · exact hall i (by omega)
    · have q : ¬ (k < l.length) := by omega
      simp only [push_cast, simprocAttr, q]
      rw [hA, allN_true (fun i hi => hall i (by omega))]; rfl
end Go.Ab
end
section
/- Kept registers that are legal, a beginning that is right: the document's. -/
set_option linter.unusedSimpArgs false
set_option linter.unusedVariables false
set_option maxRecDepth 10000
namespace Go.Ab
open Go.Proofs
section
variable {P : Program} {G : Glo}
/-- A row of one's own that is handed over for good. -/
theorem Spec.froze {f : FuncId} {a a' : AV} {l1 l2 : List AV} {h g : Heap} {Q : AV → Heap → Prop} (hs : Spec P G f (l1 ++ a' :: l2) g Q) (hl : Le a h a' g) (hsub : Sub g h) : Spec P G f (l1 ++ a :: l2) h Q := by
  intro w vs h1 h2 h3
  have hk : Keeps w h.dom w g.dom := ⟨Nat.le_refl _, fun c _ hn => ⟨fun hd => hn fun e => hd (hsub.none e), rfl⟩, fun _ h => h⟩
  have hlen := h3.1
  have hi : l1.length < vs.length := by rw [← hlen]; simp
  obtain ⟨x, y, z⟩ := hl w vs[l1.length] h1 (h3.2 l1.length a _ (by simp) (by simp [hi]))
  refine (hs w vs x (h2.keep hk) ⟨by rw [← hlen]; simp, fun i b v e1 e2 => ?_⟩).mono fun _ w' ⟨v, r, h', a1, b1, c1, d1, e1⟩ => ⟨v, r, h', a1, b1, c1, d1, e1.size, fun b hb hn => e1.blk b hb (hsub.none hn), e1.cel, e1.os, e1.tape, e1.out⟩
  by_cases hil : i = l1.length
  · subst hil
    rw [List.getElem?_append_right (Nat.le_refl _), Nat.sub_self] at e1
    cases e1
    rw [List.getElem?_eq_getElem hi] at e2
    cases e2
    exact y
  · refine (h3.2 i b v ?_ e2).keep hk
    rw [← e1]
    by_cases hlt : i < l1.length
    · rw [List.getElem?_append_left hlt, List.getElem?_append_left hlt]
    · rw [List.getElem?_append_right (by omega), List.getElem?_append_right (by omega)]
      obtain ⟨j, hj⟩ : ∃ j, i - l1.length = j + 1 := ⟨i - l1.length - 1, by omega⟩
      rw [hj]; rfl
end
variable {G : Glo} {h : Heap}
def numL : List Int := [768, 769, 772, 773, 832, 833, 834, 835, 836, 2816, 2818, 2944, 2946, 3072, 3073, 3074, 3200, 3201, 3202, 3857, 3858, 3859, 3860]
def numC : List AV := numL.map fun n => .int .i64 n
def keepL : List (BitVec 32) := [136#32, 0#32, 2184#32, 4294967293#32, 4294967295#32, 4294967292#32, 4294967295#32, 4294967295#32, 0#32, 4294967295#32, 4294967295#32, 4294967295#32, 4294967295#32, 0#32, 0#32, 0#32, 0#32, 0#32, 0#32, 0#32, 0#32, 0#32, 0#32]
def fixL : List (BitVec 32) := [6144#32, 1073746176#32, 0#32, 0#32, 0#32, 0#32, 0#32, 0#32, 0#32, 0#32, 0#32, 0#32, 0#32, 0#32, 0#32, 0#32, 0#32, 0#32, 0#32, 0#32, 0#32, 0#32, 0#32]
theorem numC_get (k : Nat) : numC[k]? = if k < 23 then some (.int .i64 (numL.getD k 0)) else none := by
  rw [numC, List.getElem?_map]
  by_cases hk : k < 23
  · have : k < numL.length := hk
    rw [if_pos hk, List.getElem?_eq_getElem this]; simp [this]
  · rw [if_neg hk, List.getElem?_eq_none (by show 23 ≤ k; omega)]; rfl
theorem Numbers_spec : Spec Tryz.prog G 145 [] h (Is (.ro numC 23) h) := by
  refine Spec.is C145ok rfl ?_
  simp only [push_cast, simprocAttr]
  first | done | rfl | exact ⟨rfl, rfl⟩
theorem Kept_spec : Spec Tryz.prog G 114 [] h (Is (.ro (wds keepL) 23) h) := by
  refine Spec.is C114ok rfl ?_
  simp only [push_cast, simprocAttr]
  first | done | rfl | exact ⟨rfl, rfl⟩
theorem Fixed_spec : Spec Tryz.prog G 115 [] h (Is (.ro (wds fixL) 23) h) := by
  refine Spec.is C115ok rfl ?_
  simp only [push_cast, simprocAttr]
  first | done | rfl | exact ⟨rfl, rfl⟩
theorem Place_spec (i : Nat) (hi : i < 23) (hne : ∀ j, j < i → numL.getD j 0 ≠ numL.getD i 0) : Spec Tryz.prog G 113 [.int .i64 (numL.getD i 0)] h (Is (.int .i64 (i : Int)) h) := by
  generalize hn : numL.getD i 0 = n at *
  refine Spec.is C113ok rfl ?_
  simp only [push_cast, simprocAttr]
  refine (Numbers_spec (G := G)).to ?_
  simp only [push_cast, simprocAttr]
  refine lpc.rel [0, 3, 4] (fun m ρ h' => ∃ k : Nat, m = i - k ∧ k ≤ i ∧ h = h' ∧ ρ = [(0, .int .i64 n), (3, .ro numC 23), (4, .int .i64 (k : Int))]) ⟨_, 0, rfl, by omega, rfl, rfl⟩ ?_
  rintro m _ _ ⟨k, rfl, hk, rfl, rfl⟩
  have hk23 : k < 23 := by omega
  have hk23' : (k : Int) < 23 := by omega
  have hg := numC_get k
  rw [if_pos hk23] at hg
  by_cases hki : k = i
  · subst hki
    rw [hn] at hg
    simp only [push_cast, simprocAttr, hk23, hk23', hg]
  · have hx := hne k (by omega)
    generalize numL.getD k 0 = x at *
    simp (disch := omega) only [push_cast, simprocAttr, wrap_i64, toNat_ofInt64, Nat.min_eq_left, Int.toNat_of_nonneg, hk23, hk23', hg, hx]
    exact ⟨_, _, by omega, .refl _, k + 1, rfl, by omega, rfl, rfl⟩
theorem Legal09_spec (i : Nat) (hi : i < 23) (hne : ∀ j, j < i → numL.getD j 0 ≠ numL.getD i 0) (w : BitVec 32) : Spec Tryz.prog G 81 [.int .i64 (numL.getD i 0), .int .u32 w.toNat] h (Is (.int .u32 ((w &&& keepL.getD i 0#32) ||| fixL.getD i 0#32).toNat) h) := by
  have hP := Place_spec (G := G) (h := h) i hi hne
  have h23 : (i : Int) < 23 := by omega
  have l1 : keepL.length = 23 := rfl
  have l2 : fixL.length = 23 := rfl
  generalize numL.getD i 0 = n at *
  generalize hga : keepL.getD i 0#32 = a at *
  generalize hgb : fixL.getD i 0#32 = b at *
  refine Spec.is C81ok rfl ?_
  simp only [push_cast, simprocAttr]
  refine hP.to ?_
  simp only [push_cast, simprocAttr]
  refine (Kept_spec (G := G)).to ?_
  simp only [push_cast, simprocAttr, hga, l1, hi, h23]
  refine (Fixed_spec (G := G)).to ?_
  simp only [push_cast, simprocAttr, hgb, l2, hi, h23]
  rw [if_pos (by rw [l1]; exact hi), hga]
theorem Legal_st (w : BitVec 32) : Spec Tryz.prog G 81 [.int .i64 768, .int .u32 w.toNat] h (Is (.int .u32 ((w &&& 136#32) ||| 6144#32).toNat) h) := Legal09_spec 0 (by omega) (fun j hj => by omega) w
theorem Legal_ie (w : BitVec 32) : Spec Tryz.prog G 81 [.int .i64 772, .int .u32 w.toNat] h (Is (.int .u32 ((w &&& 2184#32) ||| 0#32).toNat) h) := Legal09_spec 2 (by omega) (fun j hj => by match j, hj with | 0, _ => decide | 1, _ => decide) w
theorem Legal_tv (w : BitVec 32) : Spec Tryz.prog G 81 [.int .i64 773, .int .u32 w.toNat] h (Is (.int .u32 ((w &&& 4294967293#32) ||| 0#32).toNat) h) := Legal09_spec 3 (by omega) (fun j hj => by match j, hj with | 0, _ => decide | 1, _ => decide | 2, _ => decide) w
theorem Legal_ep (w : BitVec 32) : Spec Tryz.prog G 81 [.int .i64 833, .int .u32 w.toNat] h (Is (.int .u32 ((w &&& 4294967292#32) ||| 0#32).toNat) h) := Legal09_spec 5 (by omega) (fun j hj => by match j, hj with | 0, _ => decide | 1, _ => decide | 2, _ => decide | 3, _ => decide | 4, _ => decide) w
def legalK (k : Kp) : Bool := decide (k.st = (k.st &&& 136#32) ||| 6144#32) && decide (k.ie = (k.ie &&& 2184#32) ||| 0#32) && decide (k.tv = (k.tv &&& 4294967293#32) ||| 0#32) && decide (k.ep = (k.ep &&& 4294967292#32) ||| 0#32)
theorem eq32 (a b : BitVec 32) : ((a.toNat : Int) == (b.toNat : Int)) = decide (a = b) := by
  rw [Bool.eq_iff_iff]; simp only [beq_iff_eq, decide_eq_true_eq]
  constructor
  · intro e; exact BitVec.eq_of_toNat_eq (by omega)
  · rintro rfl; rfl
theorem Legal18_spec (k : Kp) : Spec Tryz.prog G 45 [.agg (wds k.l)] h (Is (.bool (legalK k)) h) := by
  have hA : legalK k = (decide (k.st = (k.st &&& 136#32) ||| 6144#32) && decide (k.ie = (k.ie &&& 2184#32) ||| 0#32) && decide (k.tv = (k.tv &&& 4294967293#32) ||| 0#32) && decide (k.ep = (k.ep &&& 4294967292#32) ||| 0#32)) := rfl
  have h1 := Legal_st (G := G) (h := h) k.st
  have h2 := Legal_ie (G := G) (h := h) k.ie
  have h3 := Legal_tv (G := G) (h := h) k.tv
  have h4 := Legal_ep (G := G) (h := h) k.ep
  rw [kp_wds]
  generalize legalK k = X at *
  generalize hx1 : (k.st &&& 136#32) ||| 6144#32 = x1 at *
  generalize hx2 : (k.ie &&& 2184#32) ||| 0#32 = x2 at *
  generalize hx3 : (k.tv &&& 4294967293#32) ||| 0#32 = x3 at *
  generalize hx4 : (k.ep &&& 4294967292#32) ||| 0#32 = x4 at *
  refine Spec.is C45ok rfl ?_
  simp only [push_cast, simprocAttr]
  refine h1.to ?_
  rcases hb1 : decide (k.st = x1) with _ | _
  · rw [hb1, Bool.false_and, Bool.false_and, Bool.false_and] at hA
    simp only [push_cast, simprocAttr, eq32, hb1]
    rw [hA]
  rw [hb1, Bool.true_and] at hA
  simp only [push_cast, simprocAttr, eq32, hb1]
  refine h2.to ?_
  rcases hb2 : decide (k.ie = x2) with _ | _
  · rw [hb2, Bool.false_and, Bool.false_and] at hA
    simp only [push_cast, simprocAttr, eq32, hb2]
    rw [hA]
  rw [hb2, Bool.true_and] at hA
  simp only [push_cast, simprocAttr, eq32, hb2]
  refine h3.to ?_
  rcases hb3 : decide (k.tv = x3) with _ | _
  · rw [hb3, Bool.false_and] at hA
    simp only [push_cast, simprocAttr, eq32, hb3]
    rw [hA]
  rw [hb3, Bool.true_and] at hA
  simp only [push_cast, simprocAttr, eq32, hb3]
  refine h4.to ?_
  simp only [push_cast, simprocAttr, eq32]
  rw [hA]
end Go.Ab
end
section
/- A beginning: is it right, and the document's machine behind it. -/
set_option linter.unusedSimpArgs false
set_option linter.unusedVariables false
set_option maxRecDepth 10000
namespace Go.Ab
open Go.Proofs
section
variable (s : ISt)
def ISt.tl : List AV := [.int .u32 (s.k.st.toNat : Int), .int .u32 (s.k.ie.toNat : Int), .int .u32 (s.k.tv.toNat : Int), .int .u32 (s.k.sc.toNat : Int), .int .u32 (s.k.ep.toNat : Int), .int .u32 (s.k.ca.toNat : Int), .int .u32 (s.k.tl.toNat : Int),
  .int .u64 (s.cyc.toNat : Int), .int .u64 (s.ins.toNat : Int), .int .u64 (s.t.off.toNat : Int), .int .u64 (s.t.mark.toNat : Int), .bool s.t.soft, .int .u64 (s.tick.toNat : Int), .int .u64 (s.ret.toNat : Int)]
theorem ISt.cells_eq : s.cells = .int .i64 s.size :: .ro (partC s.parts) s.parts.length :: arrs s.input :: rec32 (.int .u32 (s.pc.toNat : Int)) s.regs s.tl := rfl
theorem part_cons (x : AV) (l : List AV) (k n : Nat) : partOf (x :: l) (k + 1) (some n) = partOf l k (some n) := by
  rw [partOf_some, partOf_some, List.length_cons, List.drop_succ_cons]
  by_cases h : k + n ≤ l.length
  · rw [if_pos h, if_pos (by omega)]
  · rw [if_neg h, if_neg (by omega)]
theorem ist_t (k : Nat) : s.cells[36 + k]? = s.tl[k]? := by
  rw [ISt.cells_eq, show 36 + k = (33 + k) + 1 + 1 + 1 by omega, List.getElem?_cons_succ, List.getElem?_cons_succ, List.getElem?_cons_succ, r32_t]
theorem ist_p (k n : Nat) (h : k + n ≤ s.tl.length) : partOf s.cells (36 + k) (some n) = some (.agg ((s.tl.drop k).take n)) := by
  rw [ISt.cells_eq, show 36 + k = (33 + k) + 1 + 1 + 1 by omega, part_cons, part_cons, part_cons, r32_part _ _ _ _ _ h]
@[push_cast] theorem ist_0 : s.cells[0]? = some (.int .i64 s.size) := rfl
@[push_cast] theorem ist_1 : s.cells[1]? = some (.ro (partC s.parts) s.parts.length) := rfl
@[push_cast] theorem ist_2 : s.cells[2]? = some (arrs s.input) := rfl
@[push_cast] theorem ist_3 : s.cells[3]? = some (.int .u32 (s.pc.toNat : Int)) := rfl
@[push_cast] theorem ist_4 : s.cells[4]? = some (.int .u32 ((s.regs.toList.getD 0 0#32).toNat : Int)) := by
  rw [ISt.cells_eq, List.getElem?_cons_succ, List.getElem?_cons_succ, List.getElem?_cons_succ]
  exact r32_r _ _ _ 0 (by omega)
@[push_cast] theorem ist_43 : s.cells[43]? = some (.int .u64 (s.cyc.toNat : Int)) := ist_t s 7
@[push_cast] theorem ist_44 : s.cells[44]? = some (.int .u64 (s.ins.toNat : Int)) := ist_t s 8
@[push_cast] theorem ist_45 : s.cells[45]? = some (.int .u64 (s.t.off.toNat : Int)) := ist_t s 9
@[push_cast] theorem ist_46 : s.cells[46]? = some (.int .u64 (s.t.mark.toNat : Int)) := ist_t s 10
@[push_cast] theorem ist_47 : s.cells[47]? = some (.bool s.t.soft) := ist_t s 11
@[push_cast] theorem ist_48 : s.cells[48]? = some (.int .u64 (s.tick.toNat : Int)) := ist_t s 12
@[push_cast] theorem ist_49 : s.cells[49]? = some (.int .u64 (s.ret.toNat : Int)) := ist_t s 13
@[push_cast] theorem ist_len : s.cells.length = 50 := by
  rw [ISt.cells_eq, List.length_cons, List.length_cons, List.length_cons, r32_len]; rfl
@[push_cast] theorem ist_regs : partOf s.cells 4 (some 32) = some (.agg (wds s.regs.toList)) := by
  rw [ISt.cells_eq, show 4 = 1 + 1 + 1 + 1 by omega, part_cons, part_cons, part_cons, r32_regs]
@[push_cast] theorem ist_kept : partOf s.cells 36 (some 7) = some (.agg (wds s.k.l)) := ist_p s 0 7 (by simp [ISt.tl])
@[push_cast] theorem ist_tim : partOf s.cells 45 (some 3) = some (.agg s.t.cells) := ist_p s 9 3 (by simp [ISt.tl])
@[push_cast] theorem ist_all : partOf s.cells 0 (some 50) = some (.agg s.cells) := partOf_all (ist_len s)
@[push_cast] theorem ist_s3 (w : BitVec 32) : s.cells.set 3 (.int .u32 (w.toNat : Int)) = ISt.cells { s with pc := w } := rfl
end
variable {G : Glo} {h : Heap}
/-- What stands against a new machine. -/
def whyN (size : Int) (l : List IPart) (input : List IArr) : Int := if rightN size then (if checkP l size.toNat = 0 then rightA input else checkP l size.toNat) else 4
theorem checkP_le (l : List IPart) (n : Nat) : checkP l n = 0 ∨ checkP l n = 3 ∨ checkP l n = 6 := by
  unfold checkP; split
  · exact .inr (.inl rfl)
  · split
    · exact .inl rfl
    · exact .inr (.inr rfl)
theorem rWhy_spec (size : Int) (l : List IPart) (input : List IArr) (hl : l.length ≤ 1000) (hp : ∀ p ∈ l, p.b.length ≤ 9223372036854775807) : Spec Tryz.prog G 44 [.int .i64 size, .ro (partC l) l.length, arrs input] h (Is (.int .i64 (whyN size l input)) h) := by
  have hA : whyN size l input = if rightN size then (if checkP l size.toNat = 0 then rightA input else checkP l size.toNat) else 4 := rfl
  have hR := rRight10_spec (G := G) (h := h) size
  generalize whyN size l input = X at *
  cases hr : rightN size with
  | false =>
    rw [hr] at hA hR
    rw [hA]
    refine Spec.is C44ok rfl ?_
    simp only [push_cast, simprocAttr]
    refine hR.to ?_
    simp only [push_cast, simprocAttr]
  | true =>
    rw [hr] at hA hR
    rw [if_pos rfl] at hA
    have hr' := hr
    simp only [rightN, Bool.and_eq_true, decide_eq_true_eq] at hr'
    obtain ⟨n, hn⟩ : ∃ n : Nat, size = n := ⟨size.toNat, by omega⟩
    subst hn
    rw [Int.toNat_natCast] at hA
    have hC := rCheckP_spec (G := G) (h := h) l (List.replicate n 0#8) hl (by simp; omega) hp
    have hcells : bys (List.replicate n 0#8) = List.replicate n (AV.int .u8 0) := (new_cells n).1
    rw [byt, hcells, List.length_replicate] at hC
    generalize checkP l n = cp at *
    have z1 : ((n : Int) - (n : Int)).toNat = 0 := by omega
    refine Spec.is C44ok rfl ?_
    simp only [push_cast, simprocAttr]
    refine hR.to ?_
    simp (disch := omega) only [push_cast, simprocAttr, wrap_i64, toNat_ofInt64, Nat.min_eq_left, Int.toNat_of_nonneg, z1]
    refine ⟨by omega, by omega, by omega, fun c hc => ?_⟩
    refine Spec.froze (l1 := [.ro (partC l) l.length]) (l2 := []) hC (Le.freeze (pre := []) hc (fun e => by omega)) ((Sub.refl h).alloc hc) |>.mono ?_
    rintro _ _ ⟨rfl, rfl⟩
    by_cases h0 : cp = 0
    · rw [if_pos h0] at hA
      simp only [push_cast, simprocAttr, h0]
      refine (rRight12_spec (G := G) input).to ?_
      rw [hA]
      simp only [push_cast, simprocAttr]
    · rw [if_neg h0] at hA
      simp only [push_cast, simprocAttr, h0]
      rw [hA]
/-- May a machine begin so? -/
def ISt.right (s : ISt) : Bool := decide (whyN s.size s.parts s.input = 0) && decide (s.pc.toNat % 4 = 0) && decide (s.regs.toList.getD 0 0#32 = 0#32) && legalK s.k
theorem rRight18_spec (s : ISt) (hl : s.parts.length ≤ 1000) (hp : ∀ p ∈ s.parts, p.b.length ≤ 9223372036854775807) : Spec Tryz.prog G 18 [.agg s.cells] h (Is (.bool s.right) h) := by
  have hA : s.right = (decide (whyN s.size s.parts s.input = 0) && decide (s.pc.toNat % 4 = 0) && decide (s.regs.toList.getD 0 0#32 = 0#32) && legalK s.k) := rfl
  have hW := rWhy_spec (G := G) (h := h) s.size s.parts s.input hl hp
  have hK := Legal18_spec (G := G) (h := h) s.k
  have hu := u32_rem s.pc
  have hz := bvz (s.regs.toList.getD 0 0#32)
  have hz2 := beq32 (s.regs.toList.getD 0 0#32)
  generalize s.right = X at *
  generalize whyN s.size s.parts s.input = wy at *
  generalize legalK s.k = lk2 at *
  have g4 := ist_4 s
  generalize s.regs.toList.getD 0 0#32 = r0 at *
  refine Spec.is C18ok rfl ?_
  simp only [push_cast, simprocAttr]
  refine hW.to ?_
  by_cases h0 : wy = 0
  · rw [decide_eq_true h0, Bool.true_and] at hA
    by_cases h4 : s.pc.toNat % 4 = 0
    · rw [decide_eq_true h4, Bool.true_and] at hA
      have h4' := hu.2 h4
      by_cases hr : r0 = 0#32
      · rw [decide_eq_true hr, Bool.true_and] at hA
        rw [hr] at g4
        simp only [push_cast, simprocAttr, h0, h4', g4, hr]
        refine hK.to ?_
        simp only [push_cast, simprocAttr]
        rw [hA]
      · rw [decide_eq_false hr, Bool.false_and] at hA
        have hr' : ¬ ((r0.toNat : Int) = 0) := by rw [hz]; exact hr
        simp only [push_cast, simprocAttr, h0, h4', g4, hr']
        rw [hA]
    · rw [decide_eq_false h4, Bool.false_and, Bool.false_and] at hA
      have h4' : ¬ ((s.pc.toNat : Int).tmod 4 = 0) := fun e => h4 (hu.1 e)
      simp only [push_cast, simprocAttr, h0, h4', g4]
      rw [hA]
  · rw [decide_eq_false h0, Bool.false_and, Bool.false_and, Bool.false_and] at hA
    have h0' : (wy == 0) = false := by rw [beq_eq_false_iff_ne]; exact h0
    simp only [push_cast, simprocAttr, h0, h0']
    first | done | (rw [hA]; intros; rfl) | rw [hA]
theorem rTNew_spec : Spec Tryz.prog G 57 [] h (Is (.agg (ITim.cells ⟨0, neverB, false⟩)) h) := by
  refine Spec.is C57ok rfl ?_
  simp only [push_cast, simprocAttr]
  intro c hc
  exact ⟨rfl, (Sub.refl h).alloc hc⟩
def Kp.new : Kp := ⟨6144#32, 0#32, 0#32, 0#32, 0#32, 0#32, 0#32⟩
theorem rFNew_spec : Spec Tryz.prog G 58 [] h (Is (.agg (IFile.cells ⟨Kp.new, 0, 0⟩)) h) := by
  refine Spec.is C58ok rfl ?_
  simp only [push_cast, simprocAttr]
  intro c hc
  exact ⟨rfl, (Sub.refl h).alloc hc⟩
theorem Le.aggE {g : Heap} {i : Nat} {L : List AV} (hi : L[i]? = some .nils) : Le (.agg L) g (.agg (L.set i (.ro [] 0))) g := by
  intro w v hw hr
  obtain ⟨cs, rfl, hl, h1, hr1⟩ := rep_agg hr
  refine ⟨hw, .agg _ _ (by simpa using hl) h1 fun j u c e1 e2 => ?_, fun _ h => h⟩
  rw [List.getElem?_set] at e1
  split at e1
  · rename_i hij
    subst hij
    split at e1
    · cases e1
      rw [rep_nils (hr1 i _ c hi e2)]; exact .roe none 0
    · cases e1
  · exact hr1 j u c e1 e2
/-- A new machine, as the document has it. -/
def newC (n : Nat) (parts : List IPart) (input : List IArr) : ICpu := ⟨2147483648#32, Rg.zero, ⟨Kp.new, 0, 0⟩, 0, 0, ⟨layN (List.replicate n 0#8) parts, ⟨input, 0, [], false, []⟩, ⟨0, neverB, false⟩, false, 0⟩, []⟩
def newL (n : Nat) (parts : List IPart) (input : List IArr) : List AV := (((newC n parts input).cells.set 47 .nils).set 49 .nils).set 55 .nils
theorem newL_le (n : Nat) (parts : List IPart) (input : List IArr) : Le (.agg (newL n parts input)) h (.agg (newC n parts input).cells) h := by
  have e1 := Le.aggE (g := h) (i := 47) (L := newL n parts input) rfl
  have e2 := Le.aggE (g := h) (i := 49) (L := (newL n parts input).set 47 (.ro [] 0)) rfl
  have e3 := Le.aggE (g := h) (i := 55) (L := ((newL n parts input).set 47 (.ro [] 0)).set 49 (.ro [] 0)) rfl
  exact le_trans e1 (le_trans e2 e3)
theorem rNew18_spec (n : Nat) (l : List IPart) (input : List IArr) (hn : rightN n = true) (hl : l.length ≤ 1000) (hok : ∀ p ∈ l, partOk n p = true) : Spec Tryz.prog G 25 [.int .i64 n, .ro (partC l) l.length, arrs input] h (Is (.agg (newC n l input).cells) h) := by
  refine Spec.weak (Q := Is (.agg (newL n l input)) h) ?_ fun r F hq => ?_
  · have hL := fun h : Heap => rLay_spec (G := G) (h := h) l (List.replicate n 0#8) hl (by simp only [rightN, Bool.and_eq_true, decide_eq_true_eq] at hn; simp; omega) (by simpa using hok)
    have hcells : bys (List.replicate n 0#8) = List.replicate n (AV.int .u8 0) := (new_cells n).1
    have hL2 : ∀ h : Heap, Spec Tryz.prog G 56 [.ro (List.replicate n (.int .u8 0)) n, .ro (partC l) l.length] h (Is (byt (layN (List.replicate n 0#8) l)) h) := fun h => by
      have := hL h
      rw [byt, hcells, List.length_replicate] at this
      exact this
    have hcl : newL n l input = (((newC n l input).cells.set 47 .nils).set 49 .nils).set 55 .nils := rfl
    have hb : (newC n l input).bus.b = layN (List.replicate n 0#8) l := rfl
    simp only [rightN, Bool.and_eq_true, decide_eq_true_eq] at hn
    have z1 : ((n : Int) - (n : Int)).toNat = 0 := by omega
    refine Spec.is C25ok rfl ?_
    simp (disch := omega) only [push_cast, simprocAttr, wrap_i64, toNat_ofInt64, Nat.min_eq_left, Int.toNat_of_nonneg, z1]
    intro b hb0
    have m0 : upd h b ⟨[.int .u32 0, .int .u32 0, .int .u32 0, .int .u32 0, .int .u32 0, .int .u32 0, .int .u32 0, .int .u32 0, .int .u32 0, .int .u32 0, .int .u32 0, .int .u32 0, .int .u32 0, .int .u32 0, .int .u32 0, .int .u32 0, .int .u32 0, .int .u32 0, .int .u32 0, .int .u32 0, .int .u32 0, .int .u32 0, .int .u32 0, .int .u32 0, .int .u32 0, .int .u32 0, .int .u32 0, .int .u32 0, .int .u32 0, .int .u32 0, .int .u32 0, .int .u32 0, .int .u32 0, .int .u32 0, .int .u32 0, .int .u32 0, .int .u32 0, .int .u32 0, .int .u32 0, .int .u32 0, .int .u64 0, .int .u64 0, .int .u64 0, .int .u64 0, .nils, .nils, .int .i64 0, .nils, .bool false, .nils, .int .u64 0, .int .u64 0, .bool false, .bool false, .int .u32 0, .nils], 0⟩ b = some ⟨[.int .u32 0, .int .u32 0, .int .u32 0, .int .u32 0, .int .u32 0, .int .u32 0, .int .u32 0, .int .u32 0, .int .u32 0, .int .u32 0, .int .u32 0, .int .u32 0, .int .u32 0, .int .u32 0, .int .u32 0, .int .u32 0, .int .u32 0, .int .u32 0, .int .u32 0, .int .u32 0, .int .u32 0, .int .u32 0, .int .u32 0, .int .u32 0, .int .u32 0, .int .u32 0, .int .u32 0, .int .u32 0, .int .u32 0, .int .u32 0, .int .u32 0, .int .u32 0, .int .u32 0, .int .u32 0, .int .u32 0, .int .u32 0, .int .u32 0, .int .u32 0, .int .u32 0, .int .u32 0, .int .u64 0, .int .u64 0, .int .u64 0, .int .u64 0, .nils, .nils, .int .i64 0, .nils, .bool false, .nils, .int .u64 0, .int .u64 0, .bool false, .bool false, .int .u32 0, .nils], 0⟩ := upd_same _ _ _
    have s0 : Sub h (upd h b ⟨[.int .u32 0, .int .u32 0, .int .u32 0, .int .u32 0, .int .u32 0, .int .u32 0, .int .u32 0, .int .u32 0, .int .u32 0, .int .u32 0, .int .u32 0, .int .u32 0, .int .u32 0, .int .u32 0, .int .u32 0, .int .u32 0, .int .u32 0, .int .u32 0, .int .u32 0, .int .u32 0, .int .u32 0, .int .u32 0, .int .u32 0, .int .u32 0, .int .u32 0, .int .u32 0, .int .u32 0, .int .u32 0, .int .u32 0, .int .u32 0, .int .u32 0, .int .u32 0, .int .u32 0, .int .u32 0, .int .u32 0, .int .u32 0, .int .u32 0, .int .u32 0, .int .u32 0, .int .u32 0, .int .u64 0, .int .u64 0, .int .u64 0, .int .u64 0, .nils, .nils, .int .i64 0, .nils, .bool false, .nils, .int .u64 0, .int .u64 0, .bool false, .bool false, .int .u32 0, .nils], 0⟩) := (Sub.refl h).alloc hb0
    generalize upd h b ⟨[.int .u32 0, .int .u32 0, .int .u32 0, .int .u32 0, .int .u32 0, .int .u32 0, .int .u32 0, .int .u32 0, .int .u32 0, .int .u32 0, .int .u32 0, .int .u32 0, .int .u32 0, .int .u32 0, .int .u32 0, .int .u32 0, .int .u32 0, .int .u32 0, .int .u32 0, .int .u32 0, .int .u32 0, .int .u32 0, .int .u32 0, .int .u32 0, .int .u32 0, .int .u32 0, .int .u32 0, .int .u32 0, .int .u32 0, .int .u32 0, .int .u32 0, .int .u32 0, .int .u32 0, .int .u32 0, .int .u32 0, .int .u32 0, .int .u32 0, .int .u32 0, .int .u32 0, .int .u32 0, .int .u64 0, .int .u64 0, .int .u64 0, .int .u64 0, .nils, .nils, .int .i64 0, .nils, .bool false, .nils, .int .u64 0, .int .u64 0, .bool false, .bool false, .int .u32 0, .nils], 0⟩ = H0 at m0 s0 ⊢
    refine ⟨by omega, by omega, by omega, fun c1 hc1 => ?_⟩
    refine Spec.froze (l1 := []) (l2 := [.ro (partC l) l.length]) (hL2 H0) (Le.freeze (pre := []) hc1 (fun e => by omega)) ((Sub.refl H0).alloc hc1) |>.mono ?_
    rintro _ _ ⟨rfl, rfl⟩
    simp only [push_cast, simprocAttr]
    refine (rTNew_spec (G := G)).to ?_
    simp only [push_cast, simprocAttr]
    intro c2 hc2
    have m1 : H0 b = some ⟨[.int .u32 0, .int .u32 0, .int .u32 0, .int .u32 0, .int .u32 0, .int .u32 0, .int .u32 0, .int .u32 0, .int .u32 0, .int .u32 0, .int .u32 0, .int .u32 0, .int .u32 0, .int .u32 0, .int .u32 0, .int .u32 0, .int .u32 0, .int .u32 0, .int .u32 0, .int .u32 0, .int .u32 0, .int .u32 0, .int .u32 0, .int .u32 0, .int .u32 0, .int .u32 0, .int .u32 0, .int .u32 0, .int .u32 0, .int .u32 0, .int .u32 0, .int .u32 0, .int .u32 0, .int .u32 0, .int .u32 0, .int .u32 0, .int .u32 0, .int .u32 0, .int .u32 0, .int .u32 0, .int .u64 0, .int .u64 0, .int .u64 0, .int .u64 0, .nils, .nils, .int .i64 0, .nils, .bool false, .nils, .int .u64 0, .int .u64 0, .bool false, .bool false, .int .u32 0, .nils], 0⟩ := m0
    have hne : c2 ≠ b := fun e => by rw [e, m0] at hc2; cases hc2
    simp only [push_cast, simprocAttr, ITim.cells, hne, m0]
    rw [era_none hc2]
    have hF : ∀ h : Heap, Spec Tryz.prog G 58 [] h (Is (.agg [.int .u32 6144, .int .u32 0, .int .u32 0, .int .u32 0, .int .u32 0, .int .u32 0, .int .u32 0, .int .u64 0, .int .u64 0]) h) := fun h => rFNew_spec
    refine (hF _).to ?_
    clear hcl hL hL2 hF
    simp only [push_cast, simprocAttr, m0]
    refine ⟨rfl, fun x y hx => ?_⟩
    by_cases hxb : x = b
    · rw [hxb, hb0] at hx; cases hx
    · rw [upd_ne hxb]; exact s0 x y hx
  · obtain ⟨rfl, rfl⟩ := hq
    exact ⟨_, _, ⟨rfl, rfl⟩, newL_le n l input⟩
end Go.Ab
end
section
/- The document's machine behind a beginning. -/
set_option linter.unusedSimpArgs false
set_option linter.unusedVariables false
set_option maxRecDepth 10000
namespace Go.Ab
open Go.Proofs
variable {G : Glo} {h : Heap}
theorem rgOf_of (r : Rg) : rgOf r.toList = r := by
  apply Vector.toList_inj.1
  exact rgOf_toList (by simp)
theorem cpu_sR (c : ICpu) (r : Rg) : splice c.cells 1 (wds r.toList) = ICpu.cells { c with regs := r } := by
  rw [cpu_sr c _ (by simp), rgOf_of]
theorem cpb_sR (c : ICpu) (bus : Nat) (v : AV) (r : Rg) : splice (cpuC c bus v) 1 (wds r.toList) = cpuC { c with regs := r } bus v := by
  rw [cpb_sr c bus v _ (by simp), rgOf_of]
def ISt.fl (s : ISt) : IFile := ⟨s.k, s.cyc, s.ins⟩
def beginC (s : ISt) (n : Nat) : ICpu :=
  let c := newC n s.parts s.input
  { c with pc := s.pc, regs := s.regs, f := s.fl, tick := s.tick, ret := s.ret, bus := { c.bus with t := s.t } }
theorem rBegin_spec (s : ISt) (n : Nat) (hs : s.size = n) (hn : rightN n = true) (hl : s.parts.length ≤ 1000) (hok : ∀ p ∈ s.parts, partOk n p = true) : Spec Tryz.prog G 8 [.agg s.cells] h (Is (.agg (beginC s n).cells) h) := by
  have hN := fun h : Heap => rNew18_spec (G := G) (h := h) n s.parts s.input hn hl hok
  have hC : beginC s n = { newC n s.parts s.input with pc := s.pc, regs := s.regs, f := s.fl, tick := s.tick, ret := s.ret, bus := { (newC n s.parts s.input).bus with t := s.t } } := rfl
  generalize beginC s n = C at *
  generalize newC n s.parts s.input = c at *
  have g0 := ist_0 s
  rw [hs] at g0
  have hR := fun c : ICpu => cpu_sR c s.regs
  have hF : ∀ c : ICpu, splice c.cells 33 [.int .u32 (s.k.st.toNat : Int), .int .u32 (s.k.ie.toNat : Int), .int .u32 (s.k.tv.toNat : Int), .int .u32 (s.k.sc.toNat : Int), .int .u32 (s.k.ep.toNat : Int), .int .u32 (s.k.ca.toNat : Int), .int .u32 (s.k.tl.toNat : Int), .int .u64 (s.cyc.toNat : Int), .int .u64 (s.ins.toNat : Int)] = ICpu.cells { c with f := s.fl } := fun c => cpu_sf c s.fl
  have hk := kp_wds s.k
  refine Spec.is C8ok rfl ?_
  simp only [push_cast, simprocAttr, g0]
  intro b hb0
  have m0 : upd h b ⟨[.int .u32 0, .int .u32 0, .int .u32 0, .int .u32 0, .int .u32 0, .int .u32 0, .int .u32 0, .int .u32 0, .int .u32 0, .int .u32 0, .int .u32 0, .int .u32 0, .int .u32 0, .int .u32 0, .int .u32 0, .int .u32 0, .int .u32 0, .int .u32 0, .int .u32 0, .int .u32 0, .int .u32 0, .int .u32 0, .int .u32 0, .int .u32 0, .int .u32 0, .int .u32 0, .int .u32 0, .int .u32 0, .int .u32 0, .int .u32 0, .int .u32 0, .int .u32 0, .int .u32 0, .int .u32 0, .int .u32 0, .int .u32 0, .int .u32 0, .int .u32 0, .int .u32 0, .int .u32 0, .int .u64 0, .int .u64 0, .int .u64 0, .int .u64 0, .nils, .nils, .int .i64 0, .nils, .bool false, .nils, .int .u64 0, .int .u64 0, .bool false, .bool false, .int .u32 0, .nils], 0⟩ b = some ⟨[.int .u32 0, .int .u32 0, .int .u32 0, .int .u32 0, .int .u32 0, .int .u32 0, .int .u32 0, .int .u32 0, .int .u32 0, .int .u32 0, .int .u32 0, .int .u32 0, .int .u32 0, .int .u32 0, .int .u32 0, .int .u32 0, .int .u32 0, .int .u32 0, .int .u32 0, .int .u32 0, .int .u32 0, .int .u32 0, .int .u32 0, .int .u32 0, .int .u32 0, .int .u32 0, .int .u32 0, .int .u32 0, .int .u32 0, .int .u32 0, .int .u32 0, .int .u32 0, .int .u32 0, .int .u32 0, .int .u32 0, .int .u32 0, .int .u32 0, .int .u32 0, .int .u32 0, .int .u32 0, .int .u64 0, .int .u64 0, .int .u64 0, .int .u64 0, .nils, .nils, .int .i64 0, .nils, .bool false, .nils, .int .u64 0, .int .u64 0, .bool false, .bool false, .int .u32 0, .nils], 0⟩ := upd_same _ _ _
  have s0 : Sub h (upd h b ⟨[.int .u32 0, .int .u32 0, .int .u32 0, .int .u32 0, .int .u32 0, .int .u32 0, .int .u32 0, .int .u32 0, .int .u32 0, .int .u32 0, .int .u32 0, .int .u32 0, .int .u32 0, .int .u32 0, .int .u32 0, .int .u32 0, .int .u32 0, .int .u32 0, .int .u32 0, .int .u32 0, .int .u32 0, .int .u32 0, .int .u32 0, .int .u32 0, .int .u32 0, .int .u32 0, .int .u32 0, .int .u32 0, .int .u32 0, .int .u32 0, .int .u32 0, .int .u32 0, .int .u32 0, .int .u32 0, .int .u32 0, .int .u32 0, .int .u32 0, .int .u32 0, .int .u32 0, .int .u32 0, .int .u64 0, .int .u64 0, .int .u64 0, .int .u64 0, .nils, .nils, .int .i64 0, .nils, .bool false, .nils, .int .u64 0, .int .u64 0, .bool false, .bool false, .int .u32 0, .nils], 0⟩) := (Sub.refl h).alloc hb0
  generalize upd h b ⟨[.int .u32 0, .int .u32 0, .int .u32 0, .int .u32 0, .int .u32 0, .int .u32 0, .int .u32 0, .int .u32 0, .int .u32 0, .int .u32 0, .int .u32 0, .int .u32 0, .int .u32 0, .int .u32 0, .int .u32 0, .int .u32 0, .int .u32 0, .int .u32 0, .int .u32 0, .int .u32 0, .int .u32 0, .int .u32 0, .int .u32 0, .int .u32 0, .int .u32 0, .int .u32 0, .int .u32 0, .int .u32 0, .int .u32 0, .int .u32 0, .int .u32 0, .int .u32 0, .int .u32 0, .int .u32 0, .int .u32 0, .int .u32 0, .int .u32 0, .int .u32 0, .int .u32 0, .int .u32 0, .int .u64 0, .int .u64 0, .int .u64 0, .int .u64 0, .nils, .nils, .int .i64 0, .nils, .bool false, .nils, .int .u64 0, .int .u64 0, .bool false, .bool false, .int .u32 0, .nils], 0⟩ = H0 at m0 s0 ⊢
  refine (hN H0).to ?_
  simp only [push_cast, simprocAttr]
  intro c1 hc1
  have hne : c1 ≠ b := fun e => by rw [e, m0] at hc1; cases hc1
  simp only [push_cast, simprocAttr, hR, hF, hk]
  refine ⟨rfl, ?_⟩
  rw [← hC]
  have mb : ∀ X, upd H0 c1 X b = some ⟨[.int .u32 0, .int .u32 0, .int .u32 0, .int .u32 0, .int .u32 0, .int .u32 0, .int .u32 0, .int .u32 0, .int .u32 0, .int .u32 0, .int .u32 0, .int .u32 0, .int .u32 0, .int .u32 0, .int .u32 0, .int .u32 0, .int .u32 0, .int .u32 0, .int .u32 0, .int .u32 0, .int .u32 0, .int .u32 0, .int .u32 0, .int .u32 0, .int .u32 0, .int .u32 0, .int .u32 0, .int .u32 0, .int .u32 0, .int .u32 0, .int .u32 0, .int .u32 0, .int .u32 0, .int .u32 0, .int .u32 0, .int .u32 0, .int .u32 0, .int .u32 0, .int .u32 0, .int .u32 0, .int .u64 0, .int .u64 0, .int .u64 0, .int .u64 0, .nils, .nils, .int .i64 0, .nils, .bool false, .nils, .int .u64 0, .int .u64 0, .bool false, .bool false, .int .u32 0, .nils], 0⟩ := fun X => by rw [upd_ne (Ne.symm hne)]; exact m0
  have hsp : splice [.int .u32 0, .int .u32 0, .int .u32 0, .int .u32 0, .int .u32 0, .int .u32 0, .int .u32 0, .int .u32 0, .int .u32 0, .int .u32 0, .int .u32 0, .int .u32 0, .int .u32 0, .int .u32 0, .int .u32 0, .int .u32 0, .int .u32 0, .int .u32 0, .int .u32 0, .int .u32 0, .int .u32 0, .int .u32 0, .int .u32 0, .int .u32 0, .int .u32 0, .int .u32 0, .int .u32 0, .int .u32 0, .int .u32 0, .int .u32 0, .int .u32 0, .int .u32 0, .int .u32 0, .int .u32 0, .int .u32 0, .int .u32 0, .int .u32 0, .int .u32 0, .int .u32 0, .int .u32 0, .int .u64 0, .int .u64 0, .int .u64 0, .int .u64 0, .nils, .nils, .int .i64 0, .nils, .bool false, .nils, .int .u64 0, .int .u64 0, .bool false, .bool false, .int .u32 0, .nils] 0 C.cells = C.cells := by
    rw [splice_len (by rw [cpu_len]; omega), cpu_len]
    simp
  clear hC hN hR hF
  simp only [push_cast, simprocAttr, mb, hsp]
  refine fun x y hx => ?_
  by_cases hxb : x = b
  · rw [hxb, hb0] at hx; cases hx
  · have : x ≠ c1 := fun e => by rw [e, ] at hx; have := s0 _ _ hx; rw [hc1] at this; cases this
    rw [upd_ne hxb, upd_ne this]; exact s0 x y hx
end Go.Ab
end
section
/- Parts that are laid: the program's. -/
set_option linter.unusedSimpArgs false
set_option linter.unusedVariables false
set_option maxRecDepth 10000
namespace Go.Ab
open Go.Proofs
variable {G : Glo} {h : Heap}
theorem cutS_get (l : List IPart) (k : Nat) (hk : k < l.length) (hl : cutS l l.length ≤ 65536) : (l.getD k IPart.zero).b.length ≤ 65536 ∧ cutS l (k + 1) = cutS l k + (l.getD k IPart.zero).b.length ∧ cutS l (k + 1) ≤ 65536 := by
  have h1 := cutS_step l k hk
  have h2 := cutS_mono l (k + 1) (l.length - (k + 1))
  rw [show k + 1 + (l.length - (k + 1)) = l.length by omega] at h2
  omega
theorem iLong_spec (l : List IPart) (hl : l.length ≤ 1000) (hlo : longN l = false) : Spec Tryz.prog G 116 [.ro (partC l) l.length] h (Is (.bool false) h) := by
  have hl2 : cutS l l.length ≤ 65536 := by simpa [longN] using hlo
  have q0 : ¬ ((l.length : Int) > 1024) := by omega
  refine Spec.is C116ok rfl ?_
  simp only [push_cast, simprocAttr, q0]
  refine lpc.rel [3, 9, 10, 11] (fun m ρ h' => ∃ k : Nat, m = l.length - k ∧ k ≤ l.length ∧ h = h' ∧ ρ = [(3, .int .i64 (cutS l k : Nat)), (9, .ro (partC l) l.length), (10, .int .i64 (l.length : Nat)), (11, .int .i64 (k : Int))]) ⟨_, 0, rfl, by omega, rfl, rfl⟩ ?_
  rintro m _ _ ⟨k, rfl, hk, rfl, rfl⟩
  have hstep := cutS_get l k
  by_cases hk2 : k < l.length
  · obtain ⟨s1, s2, s3⟩ := hstep hk2 hl2
    have hp := part_p l k
    rw [if_pos hk2] at hp
    generalize hgp : l.getD k IPart.zero = p at *
    generalize hn1 : cutS l (k + 1) = n1 at *
    generalize hn0 : cutS l k = n0 at *
    have q1 : ¬ ((p.b.length : Int) > 65536 - (n0 : Int)) := by omega
    simp (disch := omega) only [push_cast, simprocAttr, wrap_i64, toNat_ofInt64, Nat.min_eq_left, Int.toNat_of_nonneg, hk2, hp, IPart.cells, q1]
    intro c hc
    rw [era_none hc]
    refine ⟨_, _, by omega, .refl _, k + 1, rfl, by omega, rfl, ?_⟩
    have e : cutS l (k + 1) = n0 + p.b.length := by omega
    rw [e]; rfl
  · obtain rfl : k = l.length := by omega
    have q : ¬ (l.length < l.length) := by omega
    simp only [push_cast, simprocAttr, q]
theorem inside_spec (p : IPart) (n : Nat) (hn : n ≤ 65536) (hok : partOk n p = true) : Spec Tryz.prog G 117 [.agg p.cells, .int .i64 n] h (Is (.bool true) h) := by
  have hlt := p.at_.isLt
  by_cases h0 : p.b.length = 0
  · have h0' : (p.b.length : Int) = 0 := by omega
    refine Spec.is C117ok rfl ?_
    simp only [push_cast, simprocAttr, IPart.cells, h0']
  · have h0' : ¬ ((p.b.length : Int) = 0) := by omega
    simp only [partOk, Bool.or_eq_true, decide_eq_true_eq, hasN, Bool.and_eq_true, h0, false_or] at hok
    obtain ⟨⟨⟨k1, k2⟩, k3⟩, k4⟩ := hok
    have q1 : (p.at_.toNat : Int) ≥ 2147483648 := by omega
    have q2 : (p.b.length : Int) ≤ n := by omega
    have hs := sub_base p.at_ k3
    have q3 : ((p.at_.toNat - 2147483648 : Nat) : Int) ≤ (n : Int) - (p.b.length : Int) := by omega
    have q4 : (p.at_.toNat : Int) - 2147483648 ≤ (n : Int) - (p.b.length : Int) := by omega
    refine Spec.is C117ok rfl ?_
    simp only [push_cast, simprocAttr, IPart.cells, h0']
    rw [hs, wrap_i64 (by omega) (by omega), decide_eq_true q1, decide_eq_true q2, decide_eq_true q3]; rfl
theorem iCheck_spec (l : List IPart) (n : Nat) (hn : n ≤ 65536) (hl : l.length ≤ 1000) (hlo : longN l = false) (hok : ∀ p ∈ l, partOk n p = true) : Spec Tryz.prog G 83 [.ro (partC l) l.length, .int .i64 n] h (Is (.int .i64 0) h) := by
  refine Spec.is C83ok rfl ?_
  simp only [push_cast, simprocAttr]
  refine (iLong_spec (G := G) l hl hlo).to ?_
  simp only [push_cast, simprocAttr]
  refine lpc.rel [1, 9, 10, 11] (fun m ρ h' => ∃ k : Nat, m = l.length - k ∧ k ≤ l.length ∧ h = h' ∧ ρ = [(1, .int .i64 (n : Nat)), (9, .ro (partC l) l.length), (10, .int .i64 (l.length : Nat)), (11, .int .i64 (k : Int))]) ⟨_, 0, rfl, by omega, rfl, rfl⟩ ?_
  rintro m _ _ ⟨k, rfl, hk, rfl, rfl⟩
  by_cases hk2 : k < l.length
  · have hp := part_p l k
    rw [if_pos hk2] at hp
    have hpk : partOk n (l.getD k IPart.zero) = true := by
      have : l.getD k IPart.zero = l[k] := by simp [hk2]
      rw [this]; exact hok _ (List.getElem_mem _)
    generalize hgp : l.getD k IPart.zero = p at *
    have hsp : splice [.int .u32 0, .nils] 0 p.cells = p.cells := rfl
    have hpp : partOf p.cells 0 (some 2) = some (.agg p.cells) := rfl
    have hI := inside_spec (G := G) (h := h) p n hn hpk
    simp (disch := omega) only [push_cast, simprocAttr, wrap_i64, toNat_ofInt64, Nat.min_eq_left, Int.toNat_of_nonneg, hk2, hp, hsp, hpp]
    intro c hc
    rw [era_none hc]
    refine hI.to ?_
    simp (disch := omega) only [push_cast, simprocAttr, wrap_i64, toNat_ofInt64, Nat.min_eq_left, Int.toNat_of_nonneg]
    exact ⟨_, _, by omega, .refl _, k + 1, rfl, by omega, rfl, rfl⟩
  · obtain rfl : k = l.length := by omega
    have q : ¬ (l.length < l.length) := by omega
    simp only [push_cast, simprocAttr, q]
theorem Size_spec {l : Pl} {M : IRam} (hr : RamAt h l M) : Spec Tryz.prog G 84 [.ptr l.p 0] h (Is (.int .i64 (M.b.length : Nat)) h) := by
  have hp := hr.hp
  refine Spec.is C84ok rfl ?_
  simp only [push_cast, simprocAttr, hp]
/-- Memory with parts laid. -/
def IRam.putP (M : IRam) (p : IPart) : IRam := M.fill p.at_ p.b
theorem fill_putP (M : IRam) (p : IPart) (h : partOk M.b.length p = true) : M.putP p = { M with b := Ab.putP M.b p } := by
  rw [IRam.putP, IRam.fill, Ab.putP]
  by_cases h0 : p.b.length = 0
  · rw [if_neg (fun q => q.1 h0), if_pos h0]
  · rw [partOk, decide_eq_false h0, Bool.false_or] at h
    rw [if_pos ⟨h0, h⟩, if_neg h0]; rfl
def IRam.layP (M : IRam) (l : List IPart) : IRam := { M with b := layN M.b l }
theorem layP_step (M : IRam) (l : List IPart) (k : Nat) (hk : k < l.length) (hok : ∀ p ∈ l, partOk M.b.length p = true) : (M.layP (l.take k)).fill (l.getD k IPart.zero).at_ (l.getD k IPart.zero).b = M.layP (l.take (k + 1)) := by
  have hlen := lay_len (l.take k) M.b (fun p hp => hok p (List.mem_of_mem_take hp))
  have hm : l.getD k IPart.zero = l[k] := by simp [hk]
  have := fill_putP (M.layP (l.take k)) (l.getD k IPart.zero) (by show partOk (layN M.b (l.take k)).length _ = true; rw [hlen, hm]; exact hok _ (List.getElem_mem _))
  rw [IRam.putP] at this
  rw [this, IRam.layP, IRam.layP, lay_step l M.b k hk]
theorem iLay_spec {pl : Pl} {M : IRam} (hr : RamAt h pl M) (l : List IPart) (hl : l.length ≤ 1000) (hlo : longN l = false) (hok : ∀ p ∈ l, partOk M.b.length p = true) : Spec Tryz.prog G 50 [.ptr pl.p 0, .ro (partC l) l.length] h (RamTo pl (M.layP l) (.int .i64 0) h) := by
  have hw := hr.wf
  unfold IRam.wf at hw
  have hl2 : cutS l l.length ≤ 65536 := by simpa [longN] using hlo
  refine Spec.walk C50ok rfl ?_
  simp only [push_cast, simprocAttr]
  refine (Size_spec (G := G) hr).to ?_
  simp only [push_cast, simprocAttr]
  refine (iCheck_spec (G := G) l M.b.length (by omega) hl hlo hok).to ?_
  simp only [push_cast, simprocAttr]
  refine lpc.rel [0, 17, 18, 19] (fun m ρ h' => ∃ k : Nat, m = l.length - k ∧ k ≤ l.length ∧ RamAt h' pl (M.layP (l.take k)) ∧ (∀ c, ¬ pl.has c → h' c = h c) ∧ ρ = [(0, .ptr pl.p 0), (17, .ro (partC l) l.length), (18, .int .i64 (l.length : Nat)), (19, .int .i64 (k : Int))]) ⟨_, 0, rfl, by omega, hr, fun _ _ => rfl, rfl⟩ ?_
  rintro m _ h' ⟨k, rfl, hk, hr2, ho2, rfl⟩
  by_cases hk2 : k < l.length
  · have hp := part_p l k
    rw [if_pos hk2] at hp
    have hst := layP_step M l k hk2 hok
    have hbl := (cutS_get l k hk2 hl2).1
    generalize hgp : l.getD k IPart.zero = p at *
    have hsp : splice [.int .u32 0, .nils] 0 p.cells = p.cells := rfl
    have h0 : p.cells[0]? = some (.int .u32 (p.at_.toNat : Int)) := rfl
    have h1 : p.cells[1]? = some (byt p.b) := rfl
    have hF := Fill_spec (G := G) hr2 p.at_ p.b (by omega)
    rw [hst] at hF
    simp (disch := omega) only [push_cast, simprocAttr, wrap_i64, toNat_ofInt64, Nat.min_eq_left, Int.toNat_of_nonneg, hk2, hp, hsp, h0, h1]
    intro c hc
    rw [era_none hc]
    refine hF.mono ?_
    rintro _ h3 ⟨rfl, hr3, ho3⟩
    simp (disch := omega) only [push_cast, simprocAttr, wrap_i64, toNat_ofInt64, Nat.min_eq_left, Int.toNat_of_nonneg]
    exact ⟨_, _, by omega, .refl _, k + 1, rfl, by omega, hr3, fun c hc => (ho3 c hc).trans (ho2 c hc), rfl⟩
  · obtain rfl : k = l.length := by omega
    have q : ¬ (l.length < l.length) := by omega
    rw [List.take_length] at hr2
    simp only [push_cast, simprocAttr, q]
    exact ⟨rfl, hr2, ho2⟩
end Go.Ab
end
section
/- A new machine: the program's. -/
set_option linter.unusedSimpArgs false
set_option linter.unusedVariables false
set_option maxRecDepth 10000
namespace Go.Ab
open Go.Proofs
variable {G : Glo} {h : Heap}
theorem own_new2 {sz : Nat} {b : Nat} (hb : h b = none) : Own sz h (.sl b 0 0 0) [] 0 (upd h b ⟨[], 0⟩) := .row b 0 0 [] [] 0 hb (by simp) (by simp)
theorem cloneA_own (l : List IArr) (hl : l.length ≤ 1000000000000) : Spec Tryz.prog G 86 [arrs l] h (fun r h' => Own 2 h r (arrC l) l.length h') := by
  refine Spec.walk C86ok rfl ?_
  simp only [push_cast, simprocAttr]
  have hn := arrC_len l
  refine ⟨fun h0 => ?_, fun b hb => ?_⟩
  · have : l = [] := List.eq_nil_of_length_eq_zero h0
    subst this
    exact .nil
  · refine ⟨hn, Own.app (own_new2 hb) (m := l.length) hn (by omega) (by omega) fun v h1 ho => ?_⟩
    rw [List.nil_append, Nat.zero_add] at ho
    simp only [push_cast, simprocAttr]
    exact ho
theorem cloneA_spec (l : List IArr) (hl : l.length ≤ 1000000000000) : Spec Tryz.prog G 86 [arrs l] h (Is (arrs l) h) :=
  Spec.weak (cloneA_own l hl) fun _ _ ho => ⟨_, _, ⟨rfl, rfl⟩, ho.freeze⟩
def One (h : Heap) (x : Blk) (r : AV) (h' : Heap) : Prop := ∃ b, h b = none ∧ r = .ptr b 0 ∧ h' = upd h b x
def fifo0 : List AV := bys (List.replicate 16 0#8) ++ [.int .i64 0, .int .i64 0]
theorem fifo0_eq : fifo0 = [.int .u8 0, .int .u8 0, .int .u8 0, .int .u8 0, .int .u8 0, .int .u8 0, .int .u8 0, .int .u8 0, .int .u8 0, .int .u8 0, .int .u8 0, .int .u8 0, .int .u8 0, .int .u8 0, .int .u8 0, .int .u8 0, .int .i64 0, .int .i64 0] := rfl
theorem fifoNew_spec : Spec Tryz.prog G 87 [] h (One h ⟨fifo0, 0⟩) := by
  rw [fifo0_eq]
  refine Spec.walk C87ok rfl ?_
  simp only [push_cast, simprocAttr]
  intro b hb
  exact ⟨b, hb, rfl, rfl⟩
theorem timNew_spec : Spec Tryz.prog G 53 [] h (One h ⟨ITim.cells ⟨0, neverB, false⟩, 0⟩) := by
  have e : ITim.cells ⟨0, neverB, false⟩ = [.int .u64 0, .int .u64 18446744073709551615, .bool false] := rfl
  rw [e]
  refine Spec.walk C53ok rfl ?_
  simp only [push_cast, simprocAttr]
  intro b hb
  exact ⟨b, hb, rfl, rfl⟩
theorem csrNew_spec : Spec Tryz.prog G 54 [] h (Is (.agg [.int .u32 6144, .int .u32 0, .int .u32 0, .int .u32 0, .int .u32 0, .int .u32 0, .int .u32 0, .int .u64 0, .int .u64 0]) h) := by
  refine Spec.is C54ok rfl ?_
  simp only [push_cast, simprocAttr]
  intro c hc
  exact (Sub.refl h).alloc hc
def Two (h : Heap) (x : Blk) (r : AV) (h' : Heap) : Prop := ∃ b, h b = none ∧ r = .tup [.ptr b 0, .int .i64 0] ∧ h' = upd h b x
theorem busNew_spec (a b c : Nat) : Spec Tryz.prog G 52 [.ptr a 0, .ptr b 0, .ptr c 0] h (Two h ⟨[.ptr a 0, .ptr b 0, .ptr c 0, .bool false, .int .u32 0], 0⟩) := by
  refine Spec.walk C52ok rfl ?_
  simp only [push_cast, simprocAttr]
  intro b hb
  exact ⟨b, hb, rfl, rfl⟩
def ConNew (h : Heap) (l : List IArr) (r : AV) (h' : Heap) : Prop := ∃ con fifo, h fifo = none ∧ h con = none ∧ con ≠ fifo ∧ r = .tup [.ptr con 0, .int .i64 0] ∧ h' = upd (upd h fifo ⟨fifo0, 0⟩) con ⟨[arrs l, .int .i64 0, .ptr fifo 0, .bool false, .nils], 0⟩
theorem conNew_spec (l : List IArr) (hr : rightA l = 0) : Spec Tryz.prog G 51 [arrs l] h (ConNew h l) := by
  have hb : ¬ 256 < l.length := fun q => by rw [rightA, if_pos q] at hr; cases hr
  rw [rightA, if_neg hb] at hr
  have hall : ∀ i, i < l.length → riseN l i = true := by
    cases ha : allN l.length (riseN l) with
    | true => exact fun i hi => allN_get ha i hi
    | false => rw [ha] at hr; cases hr
  have q0 : ¬ ((l.length : Int) > 256) := by omega
  refine Spec.walk C51ok rfl ?_
  simp only [push_cast, simprocAttr, q0]
  refine lpc.rel [0, 9, 10] (fun m ρ h' => ∃ k : Nat, m = l.length - k ∧ k ≤ l.length ∧ h = h' ∧ ρ = [(0, arrs l), (9, .int .i64 (l.length : Nat)), (10, .int .i64 (k : Int))]) ⟨_, 0, rfl, by omega, rfl, rfl⟩ ?_
  rintro m _ _ ⟨k, rfl, hk, rfl, rfl⟩
  by_cases hk2 : k < l.length
  · by_cases hk0 : k = 0
    · have q1 : ¬ ((k : Int) > 0) := by omega
      simp (disch := omega) only [push_cast, simprocAttr, wrap_i64, toNat_ofInt64, Nat.min_eq_left, Int.toNat_of_nonneg, hk2, q1]
      exact ⟨_, _, by omega, .refl _, k + 1, rfl, by omega, rfl, rfl⟩
    · obtain ⟨j, hkj⟩ : ∃ j, k = j + 1 := ⟨k - 1, by omega⟩
      have hR := hall k hk2
      rw [riseN, decide_eq_false hk0, Bool.false_or, show k - 1 = j by omega] at hR
      have hR := of_decide_eq_true hR
      have hj : j < l.length := by omega
      have q1 : (k : Int) > 0 := by omega
      have ew : IntKind.i64.wrap ((k : Int) - 1) = (j : Int) := by rw [wrap_i64 (by omega) (by omega)]; omega
      have ew2 : IntKind.i64.wrap ((k : Int) + 1) = ((k + 1 : Nat) : Int) := by rw [wrap_i64 (by omega) (by omega)]; omega
      generalize hg1 : l.getD j IArr.zero = a1 at *
      generalize hg2 : l.getD k IArr.zero = a2 at *
      have hlt : ¬ (a2.tick.toNat < a1.tick.toNat) := by omega
      simp only [push_cast, simprocAttr, hk2, hj, q1, ew, ew2, hg1, hg2, hlt]
      exact ⟨_, _, by omega, .refl _, k + 1, rfl, by omega, rfl, rfl⟩
  · obtain rfl : k = l.length := by omega
    have q : ¬ (l.length < l.length) := by omega
    simp only [push_cast, simprocAttr, q]
    refine (cloneA_spec (G := G) l (by omega)).to ?_
    simp only [push_cast, simprocAttr]
    refine (fifoNew_spec (G := G)).mono ?_
    rintro _ _ ⟨f, hf, rfl, rfl⟩
    simp only [push_cast, simprocAttr]
    intro c hc
    have hne : c ≠ f := fun e => by rw [e, upd_same] at hc; cases hc
    rw [upd_ne hne] at hc
    exact ⟨c, f, hf, hc, hne, rfl, rfl⟩
end Go.Ab
end
section
/- A new machine: where it lies. -/
set_option linter.unusedSimpArgs false
set_option linter.unusedVariables false
set_option maxRecDepth 10000
namespace Go.Ab
open Go.Proofs
variable {G : Glo} {h : Heap}
/-- A machine that was not there. -/
def Born (h : Heap) (C : ICpu) (M : IRam) (l : Plc) (h' : Heap) : Prop := MachAt h' l C M ∧ (∀ d, l.has d → h d = none) ∧ ∀ d, ¬ l.has d → h' d = h d
theorem upd_no2 {H : Heap} {c d : Nat} {X : Blk} (h : upd H c X d = none) : d ≠ c ∧ H d = none := by
  by_cases e : d = c
  · rw [e, upd_same] at h; cases h
  · rw [upd_ne e] at h; exact ⟨e, h⟩
theorem born_new {h2 : Heap} {pl : Pl} {M : IRam} (n : Nat) (parts : List IPart) (input : List IArr) (hr : RamAt h2 pl M) (hM : M.b = layN (List.replicate n 0#8) parts) (hl : input.length ≤ 256) (hf : ∀ c, pl.has c → h c = none) (ho : ∀ c, ¬ pl.has c → h2 c = h c)
    {fifo con tim bus p : Nat} (hff : h2 fifo = none) (hfc : h2 con = none) (hcf : con ≠ fifo) (H3 H4 H5 H6 : Heap) (e3 : H3 = upd (upd h2 fifo ⟨fifo0, 0⟩) con ⟨[arrs input, .int .i64 0, .ptr fifo 0, .bool false, .nils], 0⟩) (hft : H3 tim = none)
    (e4 : H4 = upd H3 tim ⟨ITim.cells ⟨0, neverB, false⟩, 0⟩) (hfb : H4 bus = none) (e5 : H5 = upd H4 bus ⟨[.ptr pl.p 0, .ptr con 0, .ptr tim 0, .bool false, .int .u32 0], 0⟩) (hfp : H5 p = none) (e6 : H6 = upd H5 p ⟨cpuC (newC n parts input) bus .nils, 0⟩) :
    Born h (newC n parts input) M ⟨p, bus, con, fifo, tim, pl, none, none⟩ H6 := by
  have np : ∀ d, h2 d = none → ¬ pl.has d := fun d hd => hr.not hd
  rw [e5] at hfp
  obtain ⟨pb, hfp⟩ := upd_no2 hfp
  rw [e4] at hfb hfp
  obtain ⟨bt, hfb⟩ := upd_no2 hfb
  obtain ⟨pt, hfp⟩ := upd_no2 hfp
  rw [e3] at hft hfb hfp
  obtain ⟨tc, hft⟩ := upd_no2 hft
  obtain ⟨bc, hfb⟩ := upd_no2 hfb
  obtain ⟨pc, hfp⟩ := upd_no2 hfp
  obtain ⟨tf, hft⟩ := upd_no2 hft
  obtain ⟨bf, hfb⟩ := upd_no2 hfb
  obtain ⟨pf, hfp⟩ := upd_no2 hfp
  have n1 := np _ hff
  have n2 := np _ hfc
  have n3 := np _ hft
  have n4 := np _ hfb
  have n5 := np _ hfp
  have hv : ∀ d, d ≠ p → d ≠ bus → d ≠ tim → d ≠ con → d ≠ fifo → H6 d = h2 d := fun d a1 a2 a3 a4 a5 => by
    rw [e6, upd_ne a1, e5, upd_ne a2, e4, upd_ne a3, e3, upd_ne a4, upd_ne a5]
  have hpl : ∀ d, pl.has d → H6 d = h2 d := fun d hd => hv d (fun e => n5 (e ▸ hd)) (fun e => n4 (e ▸ hd)) (fun e => n3 (e ▸ hd)) (fun e => n2 (e ▸ hd)) (fun e => n1 (e ▸ hd))
  have hok := hr.ok
  refine ⟨⟨?_, ?_, ?_, ?_, ?_, ?_, ?_, hM, hl, Nat.zero_le _⟩, ?_, ?_⟩
  · simp only [Pl.has, not_or] at n1 n2 n3 n4 n5
    have o := hok.pb
    simp only [Plc.l, Option.toList, List.append_nil, List.nodup_cons, List.mem_cons, List.not_mem_nil, or_false, not_or, List.nodup_nil, and_true, not_false_eq_true]
    exact ⟨⟨pb, pc, pf, pt, n5⟩, ⟨bc, bf, bt, n4⟩, ⟨hcf, Ne.symm tc, n2⟩, ⟨Ne.symm tf, n1⟩, n3, ⟨hok.pb, hok.pw, hok.pg⟩, ⟨hok.bw, hok.bg⟩, hok.wg⟩
  · exact ⟨.nils, by rw [e6]; exact upd_same _ _ _, rfl, rfl, rfl⟩
  · show H6 bus = _
    rw [e6, upd_ne (Ne.symm pb), e5]; exact upd_same _ _ _
  · refine ⟨.nils, ?_, rfl, rfl, rfl⟩
    show H6 con = _
    rw [e6, upd_ne (Ne.symm pc), e5, upd_ne (Ne.symm bc), e4, upd_ne (Ne.symm tc), e3]; exact upd_same _ _ _
  · refine ⟨List.replicate 16 0#8, 0, 0, ?_, by simp, by omega, by omega, rfl⟩
    show H6 fifo = _
    rw [e6, upd_ne (Ne.symm pf), e5, upd_ne (Ne.symm bf), e4, upd_ne (Ne.symm tf), e3, upd_ne (Ne.symm hcf)]; exact upd_same _ _ _
  · show H6 tim = _
    rw [e6, upd_ne (Ne.symm pt), e5, upd_ne (Ne.symm bt), e4]; exact upd_same _ _ _
  · exact ⟨hok, hr.wf, by rw [hpl _ (.inl rfl)]; exact hr.hp, by rw [hpl _ (.inr (.inl rfl))]; exact hr.hb, by rw [hpl _ (.inr (.inr (.inl rfl)))]; exact hr.hw, by rw [hpl _ (.inr (.inr (.inr rfl)))]; exact hr.hg⟩
  · intro d hd
    simp only [Plc.has, Plc.l, Option.toList, List.append_nil, List.mem_cons, List.not_mem_nil, or_false] at hd
    have ho' : ∀ d, h2 d = none → h d = none := fun d hd => by rw [← ho d (np d hd)]; exact hd
    rcases hd with rfl | rfl | rfl | rfl | rfl | hd
    · exact ho' _ hfp
    · exact ho' _ hfb
    · exact ho' _ hfc
    · exact ho' _ hff
    · exact ho' _ hft
    · exact hf d hd
  · intro d hd
    simp only [Plc.has, Plc.l, Option.toList, List.append_nil, List.mem_cons, List.not_mem_nil, or_false, not_or] at hd
    obtain ⟨d1, d2, d3, d4, d5, d6⟩ := hd
    rw [hv d d1 d2 d5 d3 d4]
    exact ho d (by simp only [Pl.has, not_or]; exact d6)
end Go.Ab
end
section
/- A new machine, and one that begins anywhere: the program's. -/
set_option linter.unusedSimpArgs false
set_option linter.unusedVariables false
set_option maxRecDepth 10000
namespace Go.Ab
open Go.Proofs
variable {G : Glo} {h : Heap}
/-- What a machine may begin with. -/
structure Goes (n : Nat) (parts : List IPart) (input : List IArr) : Prop where
  hn : rightN n = true
  hl : parts.length ≤ 1000
  hlo : longN parts = false
  hok : ∀ p ∈ parts, partOk n p = true
  hi : rightA input = 0
def CpuNew (h : Heap) (n : Nat) (parts : List IPart) (input : List IArr) (r : AV) (h' : Heap) : Prop := ∃ l : Plc, r = .tup [.ptr l.p 0, .int .i64 0] ∧ (l.ob = none ∧ l.eb = none) ∧ Born h (newC n parts input) ((IRam.new n).layP parts) l h'
theorem cpuNew_spec {n : Nat} {parts : List IPart} {input : List IArr} (hg : Goes n parts input) : Spec Tryz.prog G 20 [.int .i64 n, .ro (partC parts) parts.length, arrs input] h (CpuNew h n parts input) := by
  obtain ⟨hn, hl, hlo, hok, hi⟩ := hg
  have hin : input.length ≤ 256 := by
    rw [rightA] at hi; split at hi
    · cases hi
    · omega
  have hM : ((IRam.new n).layP parts).b = layN (List.replicate n 0#8) parts := rfl
  have hlen : (IRam.new n).b.length = n := by simp [IRam.new]
  refine Spec.walk C20ok rfl ?_
  simp only [push_cast, simprocAttr]
  refine (New_spec (G := G) n hn).mono ?_
  rintro _ h1 ⟨pl, rfl, hr1, hf1, ho1⟩
  simp only [push_cast, simprocAttr]
  refine (iLay_spec (G := G) hr1 parts hl hlo (by rw [hlen]; exact hok)).mono ?_
  rintro _ h2 ⟨rfl, hr2, ho2⟩
  have ho : ∀ c, ¬ pl.has c → h2 c = h c := fun c hc => (ho2 c hc).trans (ho1 c hc)
  simp only [push_cast, simprocAttr]
  refine (conNew_spec (G := G) input hi).mono ?_
  rintro _ H3 ⟨con, fifo, hff, hfc, hcf, rfl, e3⟩
  simp only [push_cast, simprocAttr]
  refine (timNew_spec (G := G)).mono ?_
  rintro _ H4 ⟨tim, hft, rfl, e4⟩
  simp only [push_cast, simprocAttr]
  refine (busNew_spec (G := G) pl.p con tim).mono ?_
  rintro _ H5 ⟨bus, hfb, rfl, e5⟩
  simp only [push_cast, simprocAttr]
  refine (csrNew_spec (G := G)).to ?_
  simp only [push_cast, simprocAttr]
  intro p hp
  refine ⟨_, ?_, ⟨rfl, rfl⟩, born_new n parts input hr2 hM hin hf1 ho hff hfc hcf H3 H4 H5 _ e3 hft e4 hfb e5 hp rfl⟩
  rfl
theorem Parts_own (l : List IPart) (hl : l.length ≤ 1000) : Spec Tryz.prog G 22 [.ro (partC l) l.length] h (fun r h' => Own 2 h r (partC l) l.length h') := by
  refine Spec.walk C22ok rfl ?_
  simp only [push_cast, simprocAttr]
  intro c hc
  have o0 : Own 2 h (.sl c 0 0 0) (partC (l.take 0)) 0 (upd h c ⟨[], 0⟩) := own_new2 hc
  refine lpc.rel [0, 3, 4] (fun m ρ H => ∃ (k : Nat) (v : AV), m = l.length - k ∧ k ≤ l.length ∧ Own 2 h v (partC (l.take k)) k H ∧ ρ = [(0, .ro (partC l) l.length), (3, v), (4, .int .i64 (k : Int))]) ⟨_, 0, _, rfl, by omega, o0, rfl⟩ ?_
  rintro m _ H ⟨k, v, rfl, hk, ho, rfl⟩
  by_cases hk2 : k < l.length
  · have e : partC (l.take (k + 1)) = partC (l.take k) ++ (l.getD k IPart.zero).cells := by
      rw [List.take_succ_eq_append_getElem hk2, partC, List.flatMap_append]
      simp [partC, hk2]
    generalize hgp : l.getD k IPart.zero = p at *
    simp only [push_cast, simprocAttr, hk2, hgp]
    refine ho.app (m := 1) rfl (by omega) (by omega) fun v2 h2 ho2 => ?_
    have e' : partC (l.take k) ++ [.int .u32 (p.at_.toNat : Int), .ro (bys p.b) p.b.length] = partC (l.take (k + 1)) := e.symm
    rw [e'] at ho2
    simp (disch := omega) only [push_cast, simprocAttr, wrap_i64, toNat_ofInt64, Nat.min_eq_left, Int.toNat_of_nonneg]
    exact ⟨_, _, by omega, .refl _, k + 1, v2, rfl, by omega, ho2, rfl⟩
  · obtain rfl : k = l.length := by omega
    have q : ¬ (l.length < l.length) := by omega
    rw [List.take_length] at ho
    simp only [push_cast, simprocAttr, q]
    exact ho
theorem Parts_spec (l : List IPart) (hl : l.length ≤ 1000) : Spec Tryz.prog G 22 [.ro (partC l) l.length] h (Is (.ro (partC l) l.length) h) :=
  Spec.weak (Parts_own l hl) fun _ _ ho => ⟨_, _, ⟨rfl, rfl⟩, ho.freeze⟩
/-- What a right beginning is. -/
theorem ISt.goes {s : ISt} (hr : s.right = true) (hl : s.parts.length ≤ 1000) : ∃ n : Nat, s.size = n ∧ Goes n s.parts s.input := by
  simp only [ISt.right, Bool.and_eq_true, decide_eq_true_eq] at hr
  obtain ⟨⟨⟨hw, _⟩, _⟩, _⟩ := hr
  rw [whyN] at hw
  cases hn : rightN s.size with
  | false => rw [hn] at hw; cases hw
  | true =>
    rw [hn, if_pos rfl] at hw
    have hn' := hn
    simp only [rightN, Bool.and_eq_true, decide_eq_true_eq] at hn'
    obtain ⟨n, hnn⟩ : ∃ n : Nat, s.size = n := ⟨s.size.toNat, by omega⟩
    rw [hnn, Int.toNat_natCast] at hw
    by_cases hc : checkP s.parts n = 0
    · rw [if_pos hc] at hw
      have hc' := hc
      rw [checkP] at hc
      cases hlo : longN s.parts with
      | true => rw [hlo, if_pos rfl] at hc; cases hc
      | false =>
        rw [hlo, if_neg (by simp)] at hc
        have ha : (allN s.parts.length fun i => partOk n (s.parts.getD i IPart.zero)) = true := by
          cases h : (allN s.parts.length fun i => partOk n (s.parts.getD i IPart.zero)) with
          | true => rfl
          | false => rw [h] at hc; cases hc
        refine ⟨n, hnn, hnn ▸ hn, hl, hlo, fun p hp => ?_, hw⟩
        obtain ⟨i, hi, rfl⟩ := List.getElem_of_mem hp
        have := allN_get ha i hi
        simpa [hi] using this
    · rw [if_neg hc] at hw
      exact absurd hw hc
end Go.Ab
end
section
/- A machine whose own words, or timer, are written. -/
set_option linter.unusedSimpArgs false
set_option linter.unusedVariables false
set_option maxRecDepth 10000
namespace Go.Ab
open Go.Proofs
variable {G : Glo} {h : Heap}
section
variable {H : Heap} {l : Plc} {c : ICpu} {M : IRam}
theorem RowAt.same {sz n : Nat} {H H' : Heap} {v : AV} {cells : List AV} {o : Option Nat} (hr : RowAt sz H v cells n o) (h : ∀ d, o = some d → H' d = H d) : RowAt sz H' v cells n o := by
  cases o with
  | none => exact hr
  | some b =>
    obtain ⟨pre, cap, sp, h1, h2, h3, h4⟩ := hr
    exact ⟨pre, cap, sp, h1, by rw [h b rfl]; exact h2, h3, h4⟩
theorem Plc.nd {l : Plc} (h : l.l.Nodup) : (∀ d, l.has d → d = l.p ∨ d = l.bus ∨ d = l.con ∨ d = l.fifo ∨ d = l.tim ∨ l.ram.has d ∨ l.ob = some d ∨ l.eb = some d) ∧
    (l.p ≠ l.bus ∧ l.p ≠ l.con ∧ l.p ≠ l.fifo ∧ l.p ≠ l.tim ∧ (∀ d, l.ram.has d → d ≠ l.p) ∧ (∀ d, l.ob = some d → d ≠ l.p) ∧ (∀ d, l.eb = some d → d ≠ l.p)) ∧
    (l.tim ≠ l.bus ∧ l.tim ≠ l.con ∧ l.tim ≠ l.fifo ∧ (∀ d, l.ram.has d → d ≠ l.tim) ∧ (∀ d, l.ob = some d → d ≠ l.tim) ∧ (∀ d, l.eb = some d → d ≠ l.tim)) ∧
    (∀ d, l.ram.has d → d ≠ l.bus ∧ d ≠ l.con ∧ d ≠ l.fifo ∧ (∀ e, l.ob = some e → e ≠ d) ∧ (∀ e, l.eb = some e → e ≠ d)) := by
  obtain ⟨p, bus, con, fifo, tim, ⟨r1, r2, r3, r4⟩, ob, eb⟩ := l
  simp only [Plc.l, List.nodup_cons, List.mem_cons, List.mem_append, List.cons_append, List.nil_append, List.not_mem_nil, or_false, not_or, Option.mem_toList, Option.toList] at h
  refine ⟨?_, ?_, ?_, ?_⟩
  · intro d hd
    simp only [Plc.has, Plc.l, List.mem_cons, List.mem_append, List.cons_append, List.nil_append, List.not_mem_nil, or_false, Option.mem_toList] at hd
    simp only [Pl.has]
    grind
  · simp only [Pl.has]
    grind
  · simp only [Pl.has]
    grind
  · simp only [Pl.has]
    grind
theorem RamAt.same {H H' : Heap} {pl : Pl} {M : IRam} (hr : RamAt H pl M) (h : ∀ d, pl.has d → H' d = H d) : RamAt H' pl M :=
  ⟨hr.ok, hr.wf, by rw [h _ (.inl rfl)]; exact hr.hp, by rw [h _ (.inr (.inl rfl))]; exact hr.hb, by rw [h _ (.inr (.inr (.inl rfl)))]; exact hr.hw, by rw [h _ (.inr (.inr (.inr rfl)))]; exact hr.hg⟩
theorem MachAt.setC {c' : ICpu} {v : AV} (hm : MachAt H l c M) (hv : H l.p = some ⟨cpuC c l.bus v, 0⟩) (hb : c'.bus = c.bus) (he : c'.ev = c.ev) : MachAt (upd H l.p ⟨cpuC c' l.bus v, 0⟩) l c' M := by
  obtain ⟨v0, hc, hrow⟩ := hm.hc
  have e : v0 = v := by
    rw [hc] at hv
    injection hv with e1
    injection e1 with e2
    have := congrArg (fun x : List AV => x[45]?) e2
    simp only [cpb_45] at this
    exact Option.some.inj this
  subst e
  obtain ⟨_, ⟨q1, q2, q3, q4, q5, q6, q7⟩, _, _⟩ := Plc.nd hm.nd
  have ne : ∀ d, d ≠ l.p → upd H l.p ⟨cpuC c' l.bus v0, 0⟩ d = H d := fun d hd => upd_ne hd
  refine ⟨hm.nd, ⟨v0, upd_same _ _ _, ?_⟩, ?_, ?_, ?_, ?_, ?_, ?_, ?_, ?_⟩
  · rw [he]; exact hrow.same fun d hd => ne d (q7 d hd)
  · rw [hb, ne _ (Ne.symm q1)]; exact hm.hb
  · obtain ⟨v1, h1, h2⟩ := hm.hn
    rw [hb]; exact ⟨v1, by rw [ne _ (Ne.symm q2)]; exact h1, h2.same fun d hd => ne d (q6 d hd)⟩
  · obtain ⟨b, f, n, h1, h2⟩ := hm.hf
    rw [hb]; exact ⟨b, f, n, by rw [ne _ (Ne.symm q3)]; exact h1, h2⟩
  · rw [hb, ne _ (Ne.symm q4)]; exact hm.ht
  · exact hm.hr.same fun d hd => ne d (q5 d hd)
  · rw [hb]; exact hm.hm
  · rw [hb]; exact hm.hl
  · rw [hb]; exact hm.came
theorem MachAt.setT (hm : MachAt H l c M) (t : ITim) : MachAt (upd H l.tim ⟨t.cells, 0⟩) l { c with bus := { c.bus with t := t } } M := by
  obtain ⟨_, ⟨_, _, _, q0, _⟩, ⟨q1, q2, q3, q4, q5, q6⟩, _⟩ := Plc.nd hm.nd
  have ne : ∀ d, d ≠ l.tim → upd H l.tim ⟨t.cells, 0⟩ d = H d := fun d hd => upd_ne hd
  refine ⟨hm.nd, ?_, ?_, ?_, ?_, upd_same _ _ _, ?_, hm.hm, hm.hl, hm.came⟩
  · obtain ⟨v1, h1, h2⟩ := hm.hc
    exact ⟨v1, by rw [ne _ q0]; exact h1, h2.same fun d hd => ne d (q6 d hd)⟩
  · rw [ne _ (Ne.symm q1)]; exact hm.hb
  · obtain ⟨v1, h1, h2⟩ := hm.hn
    exact ⟨v1, by rw [ne _ (Ne.symm q2)]; exact h1, h2.same fun d hd => ne d (q5 d hd)⟩
  · obtain ⟨b, f, n, h1, h2⟩ := hm.hf
    exact ⟨b, f, n, by rw [ne _ (Ne.symm q3)]; exact h1, h2⟩
  · exact hm.hr.same fun d hd => ne d (q4 d hd)
theorem MachAt.setR {H' : Heap} {M' : IRam} (hm : MachAt H l c M) (hr : RamAt H' l.ram M') (ho : ∀ d, ¬ l.ram.has d → H' d = H d) : MachAt H' l { c with bus := { c.bus with b := M'.b } } M' := by
  obtain ⟨_, ⟨_, _, _, _, q1, _⟩, ⟨_, _, _, q2, _⟩, q3⟩ := Plc.nd hm.nd
  refine ⟨hm.nd, ?_, ?_, ?_, ?_, ?_, hr, rfl, hm.hl, hm.came⟩
  · obtain ⟨v1, h1, h2⟩ := hm.hc
    exact ⟨v1, by rw [ho _ (fun e => q1 _ e rfl)]; exact h1, h2.same fun d hd => ho d fun e => (q3 d e).2.2.2.2 d hd rfl⟩
  · rw [ho _ (fun e => (q3 _ e).1 rfl)]; exact hm.hb
  · obtain ⟨v1, h1, h2⟩ := hm.hn
    exact ⟨v1, by rw [ho _ (fun e => (q3 _ e).2.1 rfl)]; exact h1, h2.same fun d hd => ho d fun e => (q3 d e).2.2.2.1 d hd rfl⟩
  · obtain ⟨b, f, n, h1, h2⟩ := hm.hf
    exact ⟨b, f, n, by rw [ho _ (fun e => (q3 _ e).2.2.1 rfl)]; exact h1, h2⟩
  · rw [ho _ (fun e => q2 _ e rfl)]; exact hm.ht
theorem MachAt.same {H' : Heap} (hm : MachAt H l c M) (h : ∀ d, l.has d → H' d = H d) : MachAt H' l c M := by
  have hl : ∀ d, d = l.p ∨ d = l.bus ∨ d = l.con ∨ d = l.fifo ∨ d = l.tim ∨ l.ram.has d ∨ l.ob = some d ∨ l.eb = some d → l.has d := by
    intro d hd
    simp only [Pl.has] at hd
    simp only [Plc.has, Plc.l, List.mem_cons, List.mem_append, List.cons_append, List.nil_append, List.not_mem_nil, or_false, Option.mem_toList]
    grind
  refine ⟨hm.nd, ?_, ?_, ?_, ?_, ?_, ?_, hm.hm, hm.hl, hm.came⟩
  · obtain ⟨v1, h1, h2⟩ := hm.hc
    exact ⟨v1, by rw [h _ (hl _ (by simp))]; exact h1, h2.same fun d hd => h d (hl _ (by simp [hd]))⟩
  · rw [h _ (hl _ (by simp))]; exact hm.hb
  · obtain ⟨v1, h1, h2⟩ := hm.hn
    exact ⟨v1, by rw [h _ (hl _ (by simp))]; exact h1, h2.same fun d hd => h d (hl _ (by simp [hd]))⟩
  · obtain ⟨b, f, n, h1, h2⟩ := hm.hf
    exact ⟨b, f, n, by rw [h _ (hl _ (by simp))]; exact h1, h2⟩
  · rw [h _ (hl _ (by simp))]; exact hm.ht
  · exact hm.hr.same fun d hd => h d (hl _ (by simp [hd]))
end
end Go.Ab
end
section
/- The program's machine that begins anywhere. -/
set_option linter.unusedSimpArgs false
set_option linter.unusedVariables false
set_option maxRecDepth 10000
namespace Go.Ab
open Go.Proofs
variable {G : Glo} {h : Heap}
def Begun (h : Heap) (s : ISt) (n : Nat) (r : AV) (h' : Heap) : Prop := ∃ l : Plc, r = .ptr l.p 0 ∧ (l.ob = none ∧ l.eb = none) ∧ Born h (beginC s n) ((IRam.new n).layP s.parts) l h'
theorem lBegin_spec (s : ISt) (n : Nat) (hs : s.size = n) (hg : Goes n s.parts s.input) : Spec Tryz.prog G 7 [.agg s.cells] h (Begun h s n) := by
  have g0 := ist_0 s
  rw [hs] at g0
  have hR := fun c bus v => cpb_sR c bus v s.regs
  have hk := kp_wds s.k
  have hF : ∀ c bus v, splice (cpuC c bus v) 33 [.int .u32 (s.k.st.toNat : Int), .int .u32 (s.k.ie.toNat : Int), .int .u32 (s.k.tv.toNat : Int), .int .u32 (s.k.sc.toNat : Int), .int .u32 (s.k.ep.toNat : Int), .int .u32 (s.k.ca.toNat : Int), .int .u32 (s.k.tl.toNat : Int), .int .u64 (s.cyc.toNat : Int), .int .u64 (s.ins.toNat : Int)] = cpuC { c with f := s.fl } bus v := fun c bus v => cpb_sf c bus v s.fl
  have hC : beginC s n = { newC n s.parts s.input with pc := s.pc, regs := s.regs, f := s.fl, tick := s.tick, ret := s.ret, bus := { (newC n s.parts s.input).bus with t := s.t } } := rfl
  refine Spec.walk C7ok rfl ?_
  simp only [push_cast, simprocAttr, g0]
  refine (Parts_spec (G := G) s.parts hg.hl).to ?_
  simp only [push_cast, simprocAttr, g0]
  refine (cpuNew_spec (G := G) hg).mono ?_
  rintro _ H ⟨l, rfl, hnn, hm, hf, ho⟩
  generalize newC n s.parts s.input = c at *
  obtain ⟨v, hc, hrow⟩ := hm.hc
  obtain ⟨_, ⟨q1, q2, q3, q4, q5, q6, q7⟩, _, _⟩ := Plc.nd hm.nd
  simp only [push_cast, simprocAttr]
  refine (cBus_spec (G := G) hm).to ?_
  simp only [push_cast, simprocAttr]
  refine (bTimer_spec (G := G) hm).to ?_
  simp only [push_cast, simprocAttr, hc, hR, hF, hk]
  have hm1 := hm.setC (c' := { pc := s.pc, regs := s.regs, f := s.fl, tick := c.tick, ret := c.ret, bus := c.bus, ev := c.ev }) hc rfl rfl
  have ho1 : ∀ d, ¬ l.has d → upd H l.p ⟨cpuC { pc := s.pc, regs := s.regs, f := s.fl, tick := c.tick, ret := c.ret, bus := c.bus, ev := c.ev } l.bus v, 0⟩ d = h d := fun d hd => by
    rw [upd_ne (fun e => hd (by rw [e]; simp [Plc.has, Plc.l]))]; exact ho d hd
  have hp1 := upd_same H l.p ⟨cpuC { pc := s.pc, regs := s.regs, f := s.fl, tick := c.tick, ret := c.ret, bus := c.bus, ev := c.ev } l.bus v, 0⟩
  generalize upd H l.p ⟨cpuC { pc := s.pc, regs := s.regs, f := s.fl, tick := c.tick, ret := c.ret, bus := c.bus, ev := c.ev } l.bus v, 0⟩ = H1 at *
  refine (cBus_spec (G := G) hm1).to ?_
  simp only [push_cast, simprocAttr]
  refine (bTimer_spec (G := G) hm1).to ?_
  have ht1 : H1 l.tim = some ⟨[.int .u64 (c.bus.t.off.toNat : Int), .int .u64 (c.bus.t.mark.toNat : Int), .bool c.bus.t.soft], 0⟩ := hm1.ht
  have hm2 := hm1.setT s.t
  have hp2 : ∀ X, upd H1 l.tim X l.p = some ⟨cpuC { pc := s.pc, regs := s.regs, f := s.fl, tick := c.tick, ret := c.ret, bus := c.bus, ev := c.ev } l.bus v, 0⟩ := fun X => by rw [upd_ne q4]; exact hp1
  have hp3 := hp2 ⟨s.t.cells, 0⟩
  have hm3 := hm2.setC (c' := { pc := s.pc, regs := s.regs, f := s.fl, tick := s.tick, ret := s.ret, bus := { c.bus with t := s.t }, ev := c.ev }) hp3 rfl rfl
  simp only [push_cast, simprocAttr, ht1, hp2]
  refine ⟨l, rfl, hnn, ?_, hf, fun d hd => ?_⟩
  · rw [hC]; exact hm3
  · rw [upd_ne (fun e => hd (by rw [e]; simp [Plc.has, Plc.l])), upd_ne (fun e => hd (by rw [e]; simp [Plc.has, Plc.l]))]; exact ho1 d hd
end Go.Ab
end
section
/- All that a machine has: the program's. -/
set_option linter.unusedSimpArgs false
set_option linter.unusedVariables false
set_option maxRecDepth 10000
namespace Go.Ab
open Go.Proofs
variable {G : Glo} {h : Heap}
theorem cloneB_nil : Spec Tryz.prog G 64 [.nils] h (Is .nils h) := by
  refine Spec.is C64ok rfl ?_
  simp only [push_cast, simprocAttr]
theorem cloneE_nil : Spec Tryz.prog G 30 [.nils] h (Is .nils h) := by
  refine Spec.is C30ok rfl ?_
  simp only [push_cast, simprocAttr]
section
variable {H : Heap} {l : Plc} {c : ICpu} {M : IRam}
theorem RowAt.at {sz n : Nat} {H : Heap} {v : AV} {cells : List AV} {b : Nat} (hr : RowAt sz H v cells n (some b)) : ∃ x, H b = some x := by
  obtain ⟨pre, cap, sp, _, h2, _⟩ := hr
  exact ⟨_, h2⟩
theorem MachAt.at (hm : MachAt H l c M) {d : Nat} (hd : l.has d) : ∃ x, H d = some x := by
  rcases (Plc.nd hm.nd).1 d hd with rfl | rfl | rfl | rfl | rfl | hd | hd | hd
  · obtain ⟨v, h, _⟩ := hm.hc; exact ⟨_, h⟩
  · exact ⟨_, hm.hb⟩
  · obtain ⟨v, h, _⟩ := hm.hn; exact ⟨_, h⟩
  · obtain ⟨b, f, n, h, _⟩ := hm.hf; exact ⟨_, h⟩
  · exact ⟨_, hm.ht⟩
  · rcases hd with rfl | rfl | rfl | rfl
    · exact ⟨_, hm.hr.hp⟩
    · exact ⟨_, hm.hr.hb⟩
    · exact ⟨_, hm.hr.hw⟩
    · exact ⟨_, hm.hr.hg⟩
  · obtain ⟨v, _, h⟩ := hm.hn; rw [hd] at h; exact h.at
  · obtain ⟨v, _, h⟩ := hm.hc; rw [hd] at h; exact h.at
theorem MachAt.sub {H' : Heap} (hm : MachAt H l c M) (hs : Sub H H') : MachAt H' l c M := hm.same fun d hd => by
  obtain ⟨x, hx⟩ := hm.at hd
  rw [hx, hs d x hx]
theorem MachAt.upd {b : Nat} {X : Blk} (hm : MachAt H l c M) (hb : H b = none) : MachAt (Ab.upd H b X) l c M := hm.sub ((Sub.refl H).alloc hb)
theorem Waits_spec (hm : MachAt H l c M) : Spec Tryz.prog G 32 [.ptr l.con 0] H (Is (byt c.bus.c.rx) H) := by
  obtain ⟨v, hn, _⟩ := hm.hn
  have hA := All_spec (G := G) hm.hf
  refine Spec.is C32ok rfl ?_
  simp only [push_cast, simprocAttr, hn]
  refine hA.to ?_
  simp only [push_cast, simprocAttr]
theorem Over_spec (hm : MachAt H l c M) : Spec Tryz.prog G 34 [.ptr l.con 0] H (Is (.bool c.bus.c.over) H) := by
  obtain ⟨v, hn, _⟩ := hm.hn
  refine Spec.is C34ok rfl ?_
  simp only [push_cast, simprocAttr, hn]
theorem Came_spec (hm : MachAt H l c M) : Spec Tryz.prog G 35 [.ptr l.con 0] H (Is (.int .i64 (c.bus.c.came : Int)) H) := by
  obtain ⟨v, hn, _⟩ := hm.hn
  refine Spec.is C35ok rfl ?_
  simp only [push_cast, simprocAttr, hn]
theorem Out_nil (hm : MachAt H l c M) (ho : l.ob = none) : Spec Tryz.prog G 33 [.ptr l.con 0] H (Is .nils H) := by
  obtain ⟨v, hn, hr⟩ := hm.hn
  rw [ho] at hr
  obtain ⟨rfl, _, _⟩ := hr
  refine Spec.is C33ok rfl ?_
  simp only [push_cast, simprocAttr, hn]
  refine (cloneB_nil (G := G)).to ?_
  simp only [push_cast, simprocAttr]
section
variable (x y : AV) (r : Rg) (T : List AV)
theorem rs42 : (rec32 x r T).set 42 y = rec32 x r (T.set 9 y) := r32_set x y r T 9
theorem rs43 : (rec32 x r T).set 43 y = rec32 x r (T.set 10 y) := r32_set x y r T 10
theorem rs44 : (rec32 x r T).set 44 y = rec32 x r (T.set 11 y) := r32_set x y r T 11
theorem rs45 : (rec32 x r T).set 45 y = rec32 x r (T.set 12 y) := r32_set x y r T 12
theorem rs46 : (rec32 x r T).set 46 y = rec32 x r (T.set 13 y) := r32_set x y r T 13
theorem rs47 : (rec32 x r T).set 47 y = rec32 x r (T.set 14 y) := r32_set x y r T 14
theorem rs48 : (rec32 x r T).set 48 y = rec32 x r (T.set 15 y) := r32_set x y r T 15
theorem rs52 : (rec32 x r T).set 52 y = rec32 x r (T.set 19 y) := r32_set x y r T 19
theorem rs53 : (rec32 x r T).set 53 y = rec32 x r (T.set 20 y) := r32_set x y r T 20
theorem rs54 : (rec32 x r T).set 54 y = rec32 x r (T.set 21 y) := r32_set x y r T 21
theorem rsp49 (a b d : AV) : splice (rec32 x r T) 49 [a, b, d] = rec32 x r (splice T 16 [a, b, d]) := r32_sp x r T 16 [a, b, d] (by simp)
theorem rall55 (h : T.length = 22) : partOf (rec32 x r T) 0 (some 55) = some (.agg (rec32 x r T)) := r32_all x r T 55 (by omega)
theorem rspl (r' : Rg) : splice (rec32 x r T) 1 (wds r'.toList) = rec32 x r' T := by rw [r32_spr _ _ _ _ (by simp), rgOf_of]
theorem rzero : wds Rg.zero.toList = [.int .u32 0, .int .u32 0, .int .u32 0, .int .u32 0, .int .u32 0, .int .u32 0, .int .u32 0, .int .u32 0, .int .u32 0, .int .u32 0, .int .u32 0, .int .u32 0, .int .u32 0, .int .u32 0, .int .u32 0, .int .u32 0, .int .u32 0, .int .u32 0, .int .u32 0, .int .u32 0, .int .u32 0, .int .u32 0, .int .u32 0, .int .u32 0, .int .u32 0, .int .u32 0, .int .u32 0, .int .u32 0, .int .u32 0, .int .u32 0, .int .u32 0, .int .u32 0] := rfl
theorem rspl0 : splice (x :: [.int .u32 0, .int .u32 0, .int .u32 0, .int .u32 0, .int .u32 0, .int .u32 0, .int .u32 0, .int .u32 0, .int .u32 0, .int .u32 0, .int .u32 0, .int .u32 0, .int .u32 0, .int .u32 0, .int .u32 0, .int .u32 0, .int .u32 0, .int .u32 0, .int .u32 0, .int .u32 0, .int .u32 0, .int .u32 0, .int .u32 0, .int .u32 0, .int .u32 0, .int .u32 0, .int .u32 0, .int .u32 0, .int .u32 0, .int .u32 0, .int .u32 0, .int .u32 0, .int .u32 0, .int .u32 0, .int .u32 0, .int .u32 0, .int .u32 0, .int .u32 0, .int .u32 0, .int .u64 0, .int .u64 0, .int .u64 0, .int .u64 0, .nils, .nils, .nils, .bool false, .int .i64 0, .int .u64 0, .int .u64 0, .bool false, .bool false, .int .u32 0, .nils]) 1 (wds r.toList) = rec32 x r [.int .u32 0, .int .u32 0, .int .u32 0, .int .u32 0, .int .u32 0, .int .u32 0, .int .u32 0, .int .u64 0, .int .u64 0, .int .u64 0, .int .u64 0, .nils, .nils, .nils, .bool false, .int .i64 0, .int .u64 0, .int .u64 0, .bool false, .bool false, .int .u32 0, .nils] := rspl x Rg.zero [.int .u32 0, .int .u32 0, .int .u32 0, .int .u32 0, .int .u32 0, .int .u32 0, .int .u32 0, .int .u64 0, .int .u64 0, .int .u64 0, .int .u64 0, .nils, .nils, .nils, .bool false, .int .i64 0, .int .u64 0, .int .u64 0, .bool false, .bool false, .int .u32 0, .nils] r
theorem rsp33 (c : ICpu) : splice (rec32 x r [.int .u32 0, .int .u32 0, .int .u32 0, .int .u32 0, .int .u32 0, .int .u32 0, .int .u32 0, .int .u64 0, .int .u64 0, .int .u64 0, .int .u64 0, .nils, .nils, .nils, .bool false, .int .i64 0, .int .u64 0, .int .u64 0, .bool false, .bool false, .int .u32 0, .nils]) 33 c.f.cells = rec32 x r ([.int .u32 (c.f.k.st.toNat : Int), .int .u32 (c.f.k.ie.toNat : Int), .int .u32 (c.f.k.tv.toNat : Int), .int .u32 (c.f.k.sc.toNat : Int), .int .u32 (c.f.k.ep.toNat : Int), .int .u32 (c.f.k.ca.toNat : Int), .int .u32 (c.f.k.tl.toNat : Int), .int .u64 (c.f.cyc.toNat : Int), .int .u64 (c.f.ins.toNat : Int)] ++ [.int .u64 0, .int .u64 0, .nils, .nils, .nils, .bool false, .int .i64 0, .int .u64 0, .int .u64 0, .bool false, .bool false, .int .u32 0, .nils]) := r32_sp x r [.int .u32 0, .int .u32 0, .int .u32 0, .int .u32 0, .int .u32 0, .int .u32 0, .int .u32 0, .int .u64 0, .int .u64 0, .int .u64 0, .int .u64 0, .nils, .nils, .nils, .bool false, .int .i64 0, .int .u64 0, .int .u64 0, .bool false, .bool false, .int .u32 0, .nils] 0 c.f.cells (by simp [IFile.cells, Kp.l])
end
/-- A state's cells. -/
def ICpu.ts (c : ICpu) (out ev : AV) : List AV := [.int .u32 (c.f.k.st.toNat : Int), .int .u32 (c.f.k.ie.toNat : Int), .int .u32 (c.f.k.tv.toNat : Int), .int .u32 (c.f.k.sc.toNat : Int), .int .u32 (c.f.k.ep.toNat : Int), .int .u32 (c.f.k.ca.toNat : Int), .int .u32 (c.f.k.tl.toNat : Int),
  .int .u64 (c.f.cyc.toNat : Int), .int .u64 (c.f.ins.toNat : Int), .int .u64 (c.tick.toNat : Int), .int .u64 (c.ret.toNat : Int), byt c.bus.b, byt c.bus.c.rx, out, .bool c.bus.c.over, .int .i64 (c.bus.c.came : Int), .int .u64 (c.bus.t.off.toNat : Int), .int .u64 (c.bus.t.mark.toNat : Int), .bool c.bus.t.soft, .bool c.bus.off, .int .u32 (c.bus.code.toNat : Int), ev]
def stL (c : ICpu) (out ev : AV) : List AV := rec32 (.int .u32 (c.pc.toNat : Int)) c.regs (c.ts out ev)
def stC (c : ICpu) : List AV := stL c (byt c.bus.c.out) (evts c.ev)
theorem State_nil (hm : MachAt H l c M) (ho : l.ob = none) (he : l.eb = none) : Spec Tryz.prog G 13 [.ptr l.p 0] H (Is (.agg (stL c .nils .nils)) H) := by
  obtain ⟨v, hc, hr⟩ := hm.hc
  rw [he] at hr
  obtain ⟨rfl, _, _⟩ := hr
  have hk := kp_wds c.f.k
  have hB := hm.hm
  refine Spec.is C13ok rfl ?_
  simp only [push_cast, simprocAttr]
  intro b hb0
  have m0 : upd H b ⟨[.int .u32 0, .int .u32 0, .int .u32 0, .int .u32 0, .int .u32 0, .int .u32 0, .int .u32 0, .int .u32 0, .int .u32 0, .int .u32 0, .int .u32 0, .int .u32 0, .int .u32 0, .int .u32 0, .int .u32 0, .int .u32 0, .int .u32 0, .int .u32 0, .int .u32 0, .int .u32 0, .int .u32 0, .int .u32 0, .int .u32 0, .int .u32 0, .int .u32 0, .int .u32 0, .int .u32 0, .int .u32 0, .int .u32 0, .int .u32 0, .int .u32 0, .int .u32 0, .int .u32 0, .int .u32 0, .int .u32 0, .int .u32 0, .int .u32 0, .int .u32 0, .int .u32 0, .int .u32 0, .int .u64 0, .int .u64 0, .int .u64 0, .int .u64 0, .nils, .nils, .nils, .bool false, .int .i64 0, .int .u64 0, .int .u64 0, .bool false, .bool false, .int .u32 0, .nils], 0⟩ b = some ⟨[.int .u32 0, .int .u32 0, .int .u32 0, .int .u32 0, .int .u32 0, .int .u32 0, .int .u32 0, .int .u32 0, .int .u32 0, .int .u32 0, .int .u32 0, .int .u32 0, .int .u32 0, .int .u32 0, .int .u32 0, .int .u32 0, .int .u32 0, .int .u32 0, .int .u32 0, .int .u32 0, .int .u32 0, .int .u32 0, .int .u32 0, .int .u32 0, .int .u32 0, .int .u32 0, .int .u32 0, .int .u32 0, .int .u32 0, .int .u32 0, .int .u32 0, .int .u32 0, .int .u32 0, .int .u32 0, .int .u32 0, .int .u32 0, .int .u32 0, .int .u32 0, .int .u32 0, .int .u32 0, .int .u64 0, .int .u64 0, .int .u64 0, .int .u64 0, .nils, .nils, .nils, .bool false, .int .i64 0, .int .u64 0, .int .u64 0, .bool false, .bool false, .int .u32 0, .nils], 0⟩ := upd_same _ _ _
  have s0 : Sub H (upd H b ⟨[.int .u32 0, .int .u32 0, .int .u32 0, .int .u32 0, .int .u32 0, .int .u32 0, .int .u32 0, .int .u32 0, .int .u32 0, .int .u32 0, .int .u32 0, .int .u32 0, .int .u32 0, .int .u32 0, .int .u32 0, .int .u32 0, .int .u32 0, .int .u32 0, .int .u32 0, .int .u32 0, .int .u32 0, .int .u32 0, .int .u32 0, .int .u32 0, .int .u32 0, .int .u32 0, .int .u32 0, .int .u32 0, .int .u32 0, .int .u32 0, .int .u32 0, .int .u32 0, .int .u32 0, .int .u32 0, .int .u32 0, .int .u32 0, .int .u32 0, .int .u32 0, .int .u32 0, .int .u32 0, .int .u64 0, .int .u64 0, .int .u64 0, .int .u64 0, .nils, .nils, .nils, .bool false, .int .i64 0, .int .u64 0, .int .u64 0, .bool false, .bool false, .int .u32 0, .nils], 0⟩) := (Sub.refl H).alloc hb0
  generalize upd H b ⟨[.int .u32 0, .int .u32 0, .int .u32 0, .int .u32 0, .int .u32 0, .int .u32 0, .int .u32 0, .int .u32 0, .int .u32 0, .int .u32 0, .int .u32 0, .int .u32 0, .int .u32 0, .int .u32 0, .int .u32 0, .int .u32 0, .int .u32 0, .int .u32 0, .int .u32 0, .int .u32 0, .int .u32 0, .int .u32 0, .int .u32 0, .int .u32 0, .int .u32 0, .int .u32 0, .int .u32 0, .int .u32 0, .int .u32 0, .int .u32 0, .int .u32 0, .int .u32 0, .int .u32 0, .int .u32 0, .int .u32 0, .int .u32 0, .int .u32 0, .int .u32 0, .int .u32 0, .int .u32 0, .int .u64 0, .int .u64 0, .int .u64 0, .int .u64 0, .nils, .nils, .nils, .bool false, .int .i64 0, .int .u64 0, .int .u64 0, .bool false, .bool false, .int .u32 0, .nils], 0⟩ = H0 at m0 s0 ⊢
  have hm0 : MachAt H0 l c M := hm.sub s0
  have hc0 := s0 _ _ hc
  have hfl : c.f.cells.length = 9 := rfl
  have hT : ∀ b3 X, H0 b3 = none → Ab.upd H0 b3 X l.tim = some ⟨[.int .u64 (c.bus.t.off.toNat : Int), .int .u64 (c.bus.t.mark.toNat : Int), .bool c.bus.t.soft], 0⟩ := fun b3 X hb3 => (hm0.upd hb3).ht
  have hM : ∀ b3 X, H0 b3 = none → Ab.upd H0 b3 X b = some ⟨[.int .u32 0, .int .u32 0, .int .u32 0, .int .u32 0, .int .u32 0, .int .u32 0, .int .u32 0, .int .u32 0, .int .u32 0, .int .u32 0, .int .u32 0, .int .u32 0, .int .u32 0, .int .u32 0, .int .u32 0, .int .u32 0, .int .u32 0, .int .u32 0, .int .u32 0, .int .u32 0, .int .u32 0, .int .u32 0, .int .u32 0, .int .u32 0, .int .u32 0, .int .u32 0, .int .u32 0, .int .u32 0, .int .u32 0, .int .u32 0, .int .u32 0, .int .u32 0, .int .u32 0, .int .u32 0, .int .u32 0, .int .u32 0, .int .u32 0, .int .u32 0, .int .u32 0, .int .u32 0, .int .u64 0, .int .u64 0, .int .u64 0, .int .u64 0, .nils, .nils, .nils, .bool false, .int .i64 0, .int .u64 0, .int .u64 0, .bool false, .bool false, .int .u32 0, .nils], 0⟩ := fun b3 X hb3 => by rw [upd_ne (fun e => by rw [e, hb3] at m0; cases m0)]; exact m0
  have hSub : ∀ b3 X Y, H0 b3 = none → Sub H (Ab.upd (Ab.upd H0 b3 X) b Y) := fun b3 X Y hb3 x y hx => by
    have hxb : x ≠ b := fun e => by rw [e, hb0] at hx; cases hx
    have hxb3 : x ≠ b3 := fun e => by
      have := s0 _ _ hx
      rw [e, hb3] at this; cases this
    rw [upd_ne hxb, upd_ne hxb3]; exact s0 _ _ hx
  have hsz : ∀ (x : AV) (r : Rg) (T : List AV), T.length = 22 → splice [.int .u32 0, .int .u32 0, .int .u32 0, .int .u32 0, .int .u32 0, .int .u32 0, .int .u32 0, .int .u32 0, .int .u32 0, .int .u32 0, .int .u32 0, .int .u32 0, .int .u32 0, .int .u32 0, .int .u32 0, .int .u32 0, .int .u32 0, .int .u32 0, .int .u32 0, .int .u32 0, .int .u32 0, .int .u32 0, .int .u32 0, .int .u32 0, .int .u32 0, .int .u32 0, .int .u32 0, .int .u32 0, .int .u32 0, .int .u32 0, .int .u32 0, .int .u32 0, .int .u32 0, .int .u32 0, .int .u32 0, .int .u32 0, .int .u32 0, .int .u32 0, .int .u32 0, .int .u32 0, .int .u64 0, .int .u64 0, .int .u64 0, .int .u64 0, .nils, .nils, .nils, .bool false, .int .i64 0, .int .u64 0, .int .u64 0, .bool false, .bool false, .int .u32 0, .nils] 0 (rec32 x r T) = rec32 x r T := fun x r T hT => by
    rw [splice_len (by rw [r32_len]; omega), r32_len, hT]
    simp
  have hU : ∀ b3 X, H0 b3 = none → MachAt (Ab.upd H0 b3 X) l c M := fun b3 X hb3 => hm0.upd hb3
  have hP : ∀ b3 X, H0 b3 = none → Ab.upd H0 b3 X l.p = some ⟨cpuC c l.bus .nils, 0⟩ := fun b3 X hb3 => by rw [upd_ne (fun e => by rw [e, hb3] at hc0; cases hc0)]; exact hc0
  simp only [push_cast, simprocAttr, hc0]
  refine ⟨(bRam_spec (G := G) hm0).to ?_, fun b3 hb3 => ?_⟩
  · simp only [push_cast, simprocAttr, hc0]
    refine ⟨(AllBytes_spec (G := G) hm0.hr).to ?_, fun b3 hb3 => ?_⟩
    · simp only [push_cast, simprocAttr, hc0]
      refine ⟨(cloneE_nil (G := G)).to ?_, fun b3 hb3 => ?_⟩
      · simp only [push_cast, simprocAttr, hc0, r32_len, rs42, rs43, rs44, rs45, rs46, rs47, rs48, rs52, rs53, rs54, rsp49, rall55, rspl0, rsp33, hfl]
        intro b3 hb3
        have hp3 := fun X => hP b3 X hb3
        simp only [push_cast, simprocAttr, hp3, r32_len, rs42, rs43, rs44, rs45, rs46, rs47, rs48, rs52, rs53, rs54, rsp49, rall55, rspl0, rsp33, hfl]
        refine (bCon_spec (G := G) (hU b3 _ hb3)).to ?_
        simp only [push_cast, simprocAttr, hp3, r32_len, rs42, rs43, rs44, rs45, rs46, rs47, rs48, rs52, rs53, rs54, rsp49, rall55, rspl0, rsp33, hfl]
        refine (Waits_spec (G := G) (hU b3 _ hb3)).to ?_
        simp only [push_cast, simprocAttr]
        refine (Out_nil (G := G) (hU b3 _ hb3) ho).to ?_
        simp only [push_cast, simprocAttr]
        refine (Over_spec (G := G) (hU b3 _ hb3)).to ?_
        simp only [push_cast, simprocAttr]
        refine (Came_spec (G := G) (hU b3 _ hb3)).to ?_
        simp only [push_cast, simprocAttr, hp3, r32_len, rs42, rs43, rs44, rs45, rs46, rs47, rs48, rs52, rs53, rs54, rsp49, rall55, rspl0, rsp33, hfl]
        refine (bTimer_spec (G := G) (hU b3 _ hb3)).to ?_
        have htm := fun X => hT b3 X hb3
        simp only [push_cast, simprocAttr, hp3, htm, r32_len, rs42, rs43, rs44, rs45, rs46, rs47, rs48, rs52, rs53, rs54, rsp49, rall55, rspl0, rsp33, hfl]
        refine (bOff_spec (G := G) (hU b3 _ hb3)).to ?_
        have mb := fun X => hM b3 X hb3
        simp only [push_cast, simprocAttr, hp3, mb, hsz, r32_len, rs42, rs43, rs44, rs45, rs46, rs47, rs48, rs52, rs53, rs54, rsp49, rall55, rspl0, rsp33, hfl]
        rw [hB]
        exact ⟨rfl, hSub b3 _ _ hb3⟩
      · have hp3 := fun X => hP b3 X hb3
        simp only [push_cast, simprocAttr, hp3]
        refine (cloneE_nil (G := G)).to ?_
        simp only [push_cast, simprocAttr, hp3, r32_len, rs42, rs43, rs44, rs45, rs46, rs47, rs48, rs52, rs53, rs54, rsp49, rall55, rspl0, rsp33, hfl]
        refine (bCon_spec (G := G) (hU b3 _ hb3)).to ?_
        simp only [push_cast, simprocAttr, hp3, r32_len, rs42, rs43, rs44, rs45, rs46, rs47, rs48, rs52, rs53, rs54, rsp49, rall55, rspl0, rsp33, hfl]
        refine (Waits_spec (G := G) (hU b3 _ hb3)).to ?_
        simp only [push_cast, simprocAttr]
        refine (Out_nil (G := G) (hU b3 _ hb3) ho).to ?_
        simp only [push_cast, simprocAttr]
        refine (Over_spec (G := G) (hU b3 _ hb3)).to ?_
        simp only [push_cast, simprocAttr]
        refine (Came_spec (G := G) (hU b3 _ hb3)).to ?_
        simp only [push_cast, simprocAttr, hp3, r32_len, rs42, rs43, rs44, rs45, rs46, rs47, rs48, rs52, rs53, rs54, rsp49, rall55, rspl0, rsp33, hfl]
        refine (bTimer_spec (G := G) (hU b3 _ hb3)).to ?_
        have htm := fun X => hT b3 X hb3
        simp only [push_cast, simprocAttr, hp3, htm, r32_len, rs42, rs43, rs44, rs45, rs46, rs47, rs48, rs52, rs53, rs54, rsp49, rall55, rspl0, rsp33, hfl]
        refine (bOff_spec (G := G) (hU b3 _ hb3)).to ?_
        have mb := fun X => hM b3 X hb3
        simp only [push_cast, simprocAttr, hp3, mb, hsz, r32_len, rs42, rs43, rs44, rs45, rs46, rs47, rs48, rs52, rs53, rs54, rsp49, rall55, rspl0, rsp33, hfl]
        rw [hB]
        exact ⟨rfl, hSub b3 _ _ hb3⟩
    · have hp3 := fun X => hP b3 X hb3
      simp only [push_cast, simprocAttr, hp3]
      refine (AllBytes_spec (G := G) (hU b3 _ hb3).hr).to ?_
      simp only [push_cast, simprocAttr, hp3]
      refine (cloneE_nil (G := G)).to ?_
      simp only [push_cast, simprocAttr, hp3, r32_len, rs42, rs43, rs44, rs45, rs46, rs47, rs48, rs52, rs53, rs54, rsp49, rall55, rspl0, rsp33, hfl]
      refine (bCon_spec (G := G) (hU b3 _ hb3)).to ?_
      simp only [push_cast, simprocAttr, hp3, r32_len, rs42, rs43, rs44, rs45, rs46, rs47, rs48, rs52, rs53, rs54, rsp49, rall55, rspl0, rsp33, hfl]
      refine (Waits_spec (G := G) (hU b3 _ hb3)).to ?_
      simp only [push_cast, simprocAttr]
      refine (Out_nil (G := G) (hU b3 _ hb3) ho).to ?_
      simp only [push_cast, simprocAttr]
      refine (Over_spec (G := G) (hU b3 _ hb3)).to ?_
      simp only [push_cast, simprocAttr]
      refine (Came_spec (G := G) (hU b3 _ hb3)).to ?_
      simp only [push_cast, simprocAttr, hp3, r32_len, rs42, rs43, rs44, rs45, rs46, rs47, rs48, rs52, rs53, rs54, rsp49, rall55, rspl0, rsp33, hfl]
      refine (bTimer_spec (G := G) (hU b3 _ hb3)).to ?_
      have htm := fun X => hT b3 X hb3
      simp only [push_cast, simprocAttr, hp3, htm, r32_len, rs42, rs43, rs44, rs45, rs46, rs47, rs48, rs52, rs53, rs54, rsp49, rall55, rspl0, rsp33, hfl]
      refine (bOff_spec (G := G) (hU b3 _ hb3)).to ?_
      have mb := fun X => hM b3 X hb3
      simp only [push_cast, simprocAttr, hp3, mb, hsz, r32_len, rs42, rs43, rs44, rs45, rs46, rs47, rs48, rs52, rs53, rs54, rsp49, rall55, rspl0, rsp33, hfl]
      rw [hB]
      exact ⟨rfl, hSub b3 _ _ hb3⟩
  · have hp3 := fun X => hP b3 X hb3
    simp only [push_cast, simprocAttr, hp3]
    refine (bRam_spec (G := G) (hU b3 _ hb3)).to ?_
    simp only [push_cast, simprocAttr, hp3]
    refine (AllBytes_spec (G := G) (hU b3 _ hb3).hr).to ?_
    simp only [push_cast, simprocAttr, hp3]
    refine (cloneE_nil (G := G)).to ?_
    simp only [push_cast, simprocAttr, hp3, r32_len, rs42, rs43, rs44, rs45, rs46, rs47, rs48, rs52, rs53, rs54, rsp49, rall55, rspl0, rsp33, hfl]
    refine (bCon_spec (G := G) (hU b3 _ hb3)).to ?_
    simp only [push_cast, simprocAttr, hp3, r32_len, rs42, rs43, rs44, rs45, rs46, rs47, rs48, rs52, rs53, rs54, rsp49, rall55, rspl0, rsp33, hfl]
    refine (Waits_spec (G := G) (hU b3 _ hb3)).to ?_
    simp only [push_cast, simprocAttr]
    refine (Out_nil (G := G) (hU b3 _ hb3) ho).to ?_
    simp only [push_cast, simprocAttr]
    refine (Over_spec (G := G) (hU b3 _ hb3)).to ?_
    simp only [push_cast, simprocAttr]
    refine (Came_spec (G := G) (hU b3 _ hb3)).to ?_
    simp only [push_cast, simprocAttr, hp3, r32_len, rs42, rs43, rs44, rs45, rs46, rs47, rs48, rs52, rs53, rs54, rsp49, rall55, rspl0, rsp33, hfl]
    refine (bTimer_spec (G := G) (hU b3 _ hb3)).to ?_
    have htm := fun X => hT b3 X hb3
    simp only [push_cast, simprocAttr, hp3, htm, r32_len, rs42, rs43, rs44, rs45, rs46, rs47, rs48, rs52, rs53, rs54, rsp49, rall55, rspl0, rsp33, hfl]
    refine (bOff_spec (G := G) (hU b3 _ hb3)).to ?_
    have mb := fun X => hM b3 X hb3
    simp only [push_cast, simprocAttr, hp3, mb, hsz, r32_len, rs42, rs43, rs44, rs45, rs46, rs47, rs48, rs52, rs53, rs54, rsp49, rall55, rspl0, rsp33, hfl]
    rw [hB]
    exact ⟨rfl, hSub b3 _ _ hb3⟩
theorem State_spec (hm : MachAt H l c M) (ho : l.ob = none) (he : l.eb = none) : Spec Tryz.prog G 13 [.ptr l.p 0] H (Is (.agg (stC c)) H) := by
  have h1 : c.bus.c.out = [] := by
    obtain ⟨v, _, hr⟩ := hm.hn
    rw [ho] at hr
    exact List.eq_nil_of_length_eq_zero hr.2.2
  have h2 : c.ev = [] := by
    obtain ⟨v, _, hr⟩ := hm.hc
    rw [he] at hr
    exact List.eq_nil_of_length_eq_zero hr.2.2
  refine Spec.weak (State_nil hm ho he) fun r F hq => ?_
  obtain ⟨rfl, rfl⟩ := hq
  refine ⟨_, _, ⟨rfl, rfl⟩, ?_⟩
  have e1 := Le.aggE (g := H) (i := 46) (L := stL c .nils .nils) (r32_t _ _ _ 13)
  have e2 := Le.aggE (g := H) (i := 54) (L := (stL c .nils .nils).set 46 (.ro [] 0)) (by rw [stL, rs46]; exact r32_t _ _ _ 21)
  have e3 : ((stL c .nils .nils).set 46 (.ro [] 0)).set 54 (.ro [] 0) = stC c := by
    rw [stL, rs46, rs54, stC, stL, h1, h2]; rfl
  rw [e3] at e2
  exact le_trans e1 e2
end
end Go.Ab
end
section
/- The document's machine of a state; are two the same? -/
set_option linter.unusedSimpArgs false
set_option linter.unusedVariables false
set_option maxRecDepth 10000
namespace Go.Ab
open Go.Proofs
variable {G : Glo} {h : Heap}
/-- Without arrivals. -/
def ICpu.bare (c : ICpu) : ICpu := { c with bus := { c.bus with c := { c.bus.c with l := [] } } }
section
variable (c : ICpu)
theorem stC_t (k : Nat) : (stC c)[33 + k]? = (c.ts (byt c.bus.c.out) (evts c.ev))[k]? := r32_t _ _ _ k
@[push_cast] theorem st_0 : (stC c)[0]? = some (.int .u32 (c.pc.toNat : Int)) := rfl
@[push_cast] theorem st_40 : (stC c)[40]? = some (.int .u64 (c.f.cyc.toNat : Int)) := stC_t c 7
@[push_cast] theorem st_41 : (stC c)[41]? = some (.int .u64 (c.f.ins.toNat : Int)) := stC_t c 8
@[push_cast] theorem st_42 : (stC c)[42]? = some (.int .u64 (c.tick.toNat : Int)) := stC_t c 9
@[push_cast] theorem st_43 : (stC c)[43]? = some (.int .u64 (c.ret.toNat : Int)) := stC_t c 10
@[push_cast] theorem st_44 : (stC c)[44]? = some (byt c.bus.b) := stC_t c 11
@[push_cast] theorem st_45 : (stC c)[45]? = some (byt c.bus.c.rx) := stC_t c 12
@[push_cast] theorem st_46 : (stC c)[46]? = some (byt c.bus.c.out) := stC_t c 13
@[push_cast] theorem st_47 : (stC c)[47]? = some (.bool c.bus.c.over) := stC_t c 14
@[push_cast] theorem st_48 : (stC c)[48]? = some (.int .i64 (c.bus.c.came : Int)) := stC_t c 15
@[push_cast] theorem st_49 : (stC c)[49]? = some (.int .u64 (c.bus.t.off.toNat : Int)) := stC_t c 16
@[push_cast] theorem st_50 : (stC c)[50]? = some (.int .u64 (c.bus.t.mark.toNat : Int)) := stC_t c 17
@[push_cast] theorem st_51 : (stC c)[51]? = some (.bool c.bus.t.soft) := stC_t c 18
@[push_cast] theorem st_52 : (stC c)[52]? = some (.bool c.bus.off) := stC_t c 19
@[push_cast] theorem st_53 : (stC c)[53]? = some (.int .u32 (c.bus.code.toNat : Int)) := stC_t c 20
@[push_cast] theorem st_54 : (stC c)[54]? = some (evts c.ev) := stC_t c 21
@[push_cast] theorem st_len : (stC c).length = 55 := r32_len _ _ _
@[push_cast] theorem st_all : partOf (stC c) 0 (some 55) = some (.agg (stC c)) := partOf_all (st_len c)
@[push_cast] theorem st_regs : partOf (stC c) 1 (some 32) = some (.agg (wds c.regs.toList)) := r32_regs _ _ _
@[push_cast] theorem st_file : partOf (stC c) 33 (some 9) = some (.agg c.f.cells) := r32_part _ _ _ 0 9 (by simp [ICpu.ts])
@[push_cast] theorem st_kept : partOf (stC c) 33 (some 7) = some (.agg (wds c.f.k.l)) := r32_part _ _ _ 0 7 (by simp [ICpu.ts])
@[push_cast] theorem st_tim : partOf (stC c) 49 (some 3) = some (.agg c.bus.t.cells) := r32_part _ _ _ 16 3 (by simp [ICpu.ts])
end
section
variable (x y : AV) (r : Rg) (T : List AV)
theorem rs55 : (rec32 x r T).set 55 y = rec32 x r (T.set 22 y) := r32_set x y r T 22
theorem rall56 (h : T.length = 23) : partOf (rec32 x r T) 0 (some 56) = some (.agg (rec32 x r T)) := r32_all x r T 56 (by omega)
theorem rspl0' : splice (x :: [.int .u32 0, .int .u32 0, .int .u32 0, .int .u32 0, .int .u32 0, .int .u32 0, .int .u32 0, .int .u32 0, .int .u32 0, .int .u32 0, .int .u32 0, .int .u32 0, .int .u32 0, .int .u32 0, .int .u32 0, .int .u32 0, .int .u32 0, .int .u32 0, .int .u32 0, .int .u32 0, .int .u32 0, .int .u32 0, .int .u32 0, .int .u32 0, .int .u32 0, .int .u32 0, .int .u32 0, .int .u32 0, .int .u32 0, .int .u32 0, .int .u32 0, .int .u32 0, .int .u32 0, .int .u32 0, .int .u32 0, .int .u32 0, .int .u32 0, .int .u32 0, .int .u32 0, .int .u64 0, .int .u64 0, .int .u64 0, .int .u64 0, .nils, .nils, .int .i64 0, .nils, .bool false, .nils, .int .u64 0, .int .u64 0, .bool false, .bool false, .int .u32 0, .nils]) 1 (wds r.toList) = rec32 x r [.int .u32 0, .int .u32 0, .int .u32 0, .int .u32 0, .int .u32 0, .int .u32 0, .int .u32 0, .int .u64 0, .int .u64 0, .int .u64 0, .int .u64 0, .nils, .nils, .int .i64 0, .nils, .bool false, .nils, .int .u64 0, .int .u64 0, .bool false, .bool false, .int .u32 0, .nils] := rspl x Rg.zero [.int .u32 0, .int .u32 0, .int .u32 0, .int .u32 0, .int .u32 0, .int .u32 0, .int .u32 0, .int .u64 0, .int .u64 0, .int .u64 0, .int .u64 0, .nils, .nils, .int .i64 0, .nils, .bool false, .nils, .int .u64 0, .int .u64 0, .bool false, .bool false, .int .u32 0, .nils] r
theorem rsp33' (a0 a1 a2 a3 a4 a5 a6 a7 a8 : AV) : splice (rec32 x r T) 33 [a0, a1, a2, a3, a4, a5, a6, a7, a8] = rec32 x r (splice T 0 [a0, a1, a2, a3, a4, a5, a6, a7, a8]) := r32_sp x r T 0 _ (by simp)
theorem rsp44 (a0 a1 a2 a3 a4 a5 a6 a7 a8 a9 b : AV) : splice (rec32 x r T) 44 [a0, a1, a2, a3, a4, a5, a6, a7, a8, a9, b] = rec32 x r (splice T 11 [a0, a1, a2, a3, a4, a5, a6, a7, a8, a9, b]) := r32_sp x r T 11 _ (by simp)
end
theorem Of_spec (c : ICpu) : Spec Tryz.prog G 12 [.agg (stC c)] h (Is (.agg c.bare.cells) h) := by
  have hk := kp_wds c.f.k
  refine Spec.weak (Q := Is (.agg (c.bare.cells.set 45 .nils)) h) ?_ fun r F hq => ?_
  · have hB : c.bare.cells.set 45 .nils = rec32 (.int .u32 (c.pc.toNat : Int)) c.regs (c.bare.tl.set 12 .nils) := r32_set _ _ _ _ 12
    rw [hB]
    clear hB
    have hsz : ∀ (x : AV) (r : Rg) (T : List AV), T.length = 23 → splice [.int .u32 0, .int .u32 0, .int .u32 0, .int .u32 0, .int .u32 0, .int .u32 0, .int .u32 0, .int .u32 0, .int .u32 0, .int .u32 0, .int .u32 0, .int .u32 0, .int .u32 0, .int .u32 0, .int .u32 0, .int .u32 0, .int .u32 0, .int .u32 0, .int .u32 0, .int .u32 0, .int .u32 0, .int .u32 0, .int .u32 0, .int .u32 0, .int .u32 0, .int .u32 0, .int .u32 0, .int .u32 0, .int .u32 0, .int .u32 0, .int .u32 0, .int .u32 0, .int .u32 0, .int .u32 0, .int .u32 0, .int .u32 0, .int .u32 0, .int .u32 0, .int .u32 0, .int .u32 0, .int .u64 0, .int .u64 0, .int .u64 0, .int .u64 0, .nils, .nils, .int .i64 0, .nils, .bool false, .nils, .int .u64 0, .int .u64 0, .bool false, .bool false, .int .u32 0, .nils] 0 (rec32 x r T) = rec32 x r T := fun x r T hT => by
      rw [splice_len (by rw [r32_len]; omega), r32_len, hT]
      simp
    refine Spec.is C12ok rfl ?_
    simp only [push_cast, simprocAttr]
    intro b hb0
    have m0 : upd h b ⟨[.int .u32 0, .int .u32 0, .int .u32 0, .int .u32 0, .int .u32 0, .int .u32 0, .int .u32 0, .int .u32 0, .int .u32 0, .int .u32 0, .int .u32 0, .int .u32 0, .int .u32 0, .int .u32 0, .int .u32 0, .int .u32 0, .int .u32 0, .int .u32 0, .int .u32 0, .int .u32 0, .int .u32 0, .int .u32 0, .int .u32 0, .int .u32 0, .int .u32 0, .int .u32 0, .int .u32 0, .int .u32 0, .int .u32 0, .int .u32 0, .int .u32 0, .int .u32 0, .int .u32 0, .int .u32 0, .int .u32 0, .int .u32 0, .int .u32 0, .int .u32 0, .int .u32 0, .int .u32 0, .int .u64 0, .int .u64 0, .int .u64 0, .int .u64 0, .nils, .nils, .int .i64 0, .nils, .bool false, .nils, .int .u64 0, .int .u64 0, .bool false, .bool false, .int .u32 0, .nils], 0⟩ b = some ⟨[.int .u32 0, .int .u32 0, .int .u32 0, .int .u32 0, .int .u32 0, .int .u32 0, .int .u32 0, .int .u32 0, .int .u32 0, .int .u32 0, .int .u32 0, .int .u32 0, .int .u32 0, .int .u32 0, .int .u32 0, .int .u32 0, .int .u32 0, .int .u32 0, .int .u32 0, .int .u32 0, .int .u32 0, .int .u32 0, .int .u32 0, .int .u32 0, .int .u32 0, .int .u32 0, .int .u32 0, .int .u32 0, .int .u32 0, .int .u32 0, .int .u32 0, .int .u32 0, .int .u32 0, .int .u32 0, .int .u32 0, .int .u32 0, .int .u32 0, .int .u32 0, .int .u32 0, .int .u32 0, .int .u64 0, .int .u64 0, .int .u64 0, .int .u64 0, .nils, .nils, .int .i64 0, .nils, .bool false, .nils, .int .u64 0, .int .u64 0, .bool false, .bool false, .int .u32 0, .nils], 0⟩ := upd_same _ _ _
    have s0 : Sub h (upd h b ⟨[.int .u32 0, .int .u32 0, .int .u32 0, .int .u32 0, .int .u32 0, .int .u32 0, .int .u32 0, .int .u32 0, .int .u32 0, .int .u32 0, .int .u32 0, .int .u32 0, .int .u32 0, .int .u32 0, .int .u32 0, .int .u32 0, .int .u32 0, .int .u32 0, .int .u32 0, .int .u32 0, .int .u32 0, .int .u32 0, .int .u32 0, .int .u32 0, .int .u32 0, .int .u32 0, .int .u32 0, .int .u32 0, .int .u32 0, .int .u32 0, .int .u32 0, .int .u32 0, .int .u32 0, .int .u32 0, .int .u32 0, .int .u32 0, .int .u32 0, .int .u32 0, .int .u32 0, .int .u32 0, .int .u64 0, .int .u64 0, .int .u64 0, .int .u64 0, .nils, .nils, .int .i64 0, .nils, .bool false, .nils, .int .u64 0, .int .u64 0, .bool false, .bool false, .int .u32 0, .nils], 0⟩) := (Sub.refl h).alloc hb0
    generalize upd h b ⟨[.int .u32 0, .int .u32 0, .int .u32 0, .int .u32 0, .int .u32 0, .int .u32 0, .int .u32 0, .int .u32 0, .int .u32 0, .int .u32 0, .int .u32 0, .int .u32 0, .int .u32 0, .int .u32 0, .int .u32 0, .int .u32 0, .int .u32 0, .int .u32 0, .int .u32 0, .int .u32 0, .int .u32 0, .int .u32 0, .int .u32 0, .int .u32 0, .int .u32 0, .int .u32 0, .int .u32 0, .int .u32 0, .int .u32 0, .int .u32 0, .int .u32 0, .int .u32 0, .int .u32 0, .int .u32 0, .int .u32 0, .int .u32 0, .int .u32 0, .int .u32 0, .int .u32 0, .int .u32 0, .int .u64 0, .int .u64 0, .int .u64 0, .int .u64 0, .nils, .nils, .int .i64 0, .nils, .bool false, .nils, .int .u64 0, .int .u64 0, .bool false, .bool false, .int .u32 0, .nils], 0⟩ = H0 at m0 s0 ⊢
    intro b3 hb3
    rw [era_none hb3]
    have mb : ∀ X, H0 b3 = none → Ab.upd H0 b3 X b = some ⟨[.int .u32 0, .int .u32 0, .int .u32 0, .int .u32 0, .int .u32 0, .int .u32 0, .int .u32 0, .int .u32 0, .int .u32 0, .int .u32 0, .int .u32 0, .int .u32 0, .int .u32 0, .int .u32 0, .int .u32 0, .int .u32 0, .int .u32 0, .int .u32 0, .int .u32 0, .int .u32 0, .int .u32 0, .int .u32 0, .int .u32 0, .int .u32 0, .int .u32 0, .int .u32 0, .int .u32 0, .int .u32 0, .int .u32 0, .int .u32 0, .int .u32 0, .int .u32 0, .int .u32 0, .int .u32 0, .int .u32 0, .int .u32 0, .int .u32 0, .int .u32 0, .int .u32 0, .int .u32 0, .int .u64 0, .int .u64 0, .int .u64 0, .int .u64 0, .nils, .nils, .int .i64 0, .nils, .bool false, .nils, .int .u64 0, .int .u64 0, .bool false, .bool false, .int .u32 0, .nils], 0⟩ := fun X hb3 => by rw [upd_ne (fun e => by rw [e, hb3] at m0; cases m0)]; exact m0
    simp only [push_cast, simprocAttr, m0, hk, rs42, rs43, rs55, rall56, rspl0', rsp33', rsp44, r32_len, hsz]
    refine ⟨rfl, fun x y hx => ?_⟩
    have hxb : x ≠ b := fun e => by rw [e, hb0] at hx; cases hx
    rw [upd_ne hxb]; exact s0 _ _ hx
  · obtain ⟨rfl, rfl⟩ := hq
    refine ⟨_, _, ⟨rfl, rfl⟩, ?_⟩
    have e1 := Le.aggE (g := h) (i := 45) (L := c.bare.cells.set 45 .nils) (by rw [ICpu.cells_eq, show 45 = 33 + 12 by rfl, r32_set, r32_t]; rfl)
    have e2 : (c.bare.cells.set 45 .nils).set 45 (.ro [] 0) = c.bare.cells := by
      rw [ICpu.cells_eq, show 45 = 33 + 12 by rfl, r32_set, r32_set]; rfl
    rw [e2] at e1
    exact e1
theorem SameEvents_nil : Spec Tryz.prog G 41 [.ro [] 0, .ro [] 0] h (Is (.bool true) h) := by
  refine Spec.is C41ok rfl ?_
  simp only [push_cast, simprocAttr]
  refine lpc.rel [0, 1, 5] (fun m ρ h' => h = h' ∧ m = 0 ∧ ρ = [(0, .ro [] 0), (1, .ro [] 0), (5, .int .i64 0)]) ⟨_, rfl, rfl, rfl⟩ ?_
  rintro m _ _ ⟨rfl, rfl, rfl⟩
  simp only [push_cast, simprocAttr]
theorem cellsEq_w (l : List (BitVec 32)) : cellsEq (List.replicate l.length .i) (wds l) (wds l) = some true := by
  induction l with
  | nil => rfl
  | cons x r ih =>
    show cellsEq (.i :: List.replicate r.length .i) (.int .u32 (x.toNat : Int) :: wds r) (.int .u32 (x.toNat : Int) :: wds r) = some true
    rw [cellsEq, if_pos rfl, ih]
    simp
theorem eqself_r (r : Rg) : aeq true [.i, .i, .i, .i, .i, .i, .i, .i, .i, .i, .i, .i, .i, .i, .i, .i, .i, .i, .i, .i, .i, .i, .i, .i, .i, .i, .i, .i, .i, .i, .i, .i] (.agg (wds r.toList)) (.agg (wds r.toList)) = some (.bool false) := by
  have hl : r.toList.length = 32 := by simp
  have := cellsEq_w r.toList
  rw [hl] at this
  show (cellsEq (List.replicate 32 .i) _ _).map _ = _
  rw [this]; rfl
@[push_cast] theorem cpu_con (c : ICpu) : partOf c.cells 45 (some 5) = some (.agg c.bus.c.cells) := r32_part _ _ c.tl 12 5 (by simp [ICpu.tl])
theorem eqself_f (f : IFile) : aeq true [.i, .i, .i, .i, .i, .i, .i, .i, .i] (.agg f.cells) (.agg f.cells) = some (.bool false) := by
  simp [aeq, cellsEq, IFile.cells, kp_wds]
theorem eqself_t (t : ITim) : aeq true [.i, .i, .b] (.agg t.cells) (.agg t.cells) = some (.bool false) := by
  simp [aeq, cellsEq, ITim.cells]
theorem Same18_spec (a : ICpu) (l1 l2 : List IArr) (he : a.ev = []) (hb : a.bus.b.length ≤ 140737488355328) (hx : a.bus.c.rx.length ≤ 140737488355328) (ho : a.bus.c.out.length ≤ 140737488355328) :
    Spec Tryz.prog G 15 [.agg ({ a with bus := { a.bus with c := { a.bus.c with l := l1 } } } : ICpu).cells, .agg ({ a with bus := { a.bus with c := { a.bus.c with l := l2 } } } : ICpu).cells] h (Is (.bool true) h) := by
  have h1 := SameBytes_spec (G := G) (h := h) a.bus.b a.bus.b hb
  have h2 := SameBytes_spec (G := G) (h := h) a.bus.c.rx a.bus.c.rx hx
  have h3 := SameBytes_spec (G := G) (h := h) a.bus.c.out a.bus.c.out ho
  have h4 := SameEvents_nil (G := G) (h := h)
  rw [decide_eq_true rfl] at h1 h2 h3
  have hev : evts a.ev = .ro [] 0 := by rw [he]; rfl
  have hbc : ∀ b : IBus, partOf b.cells 1 (some 5) = some (.agg b.c.cells) := bus_c
  refine Spec.is C15ok rfl ?_
  simp only [push_cast, simprocAttr, hev, eqself_r, eqself_f, eqself_t, bne_self_eq_false, ICon.cells]
  intro c1 hc1
  intro c2 hc2
  rw [era_none hc1] at hc2 ⊢
  rw [era_none hc2]
  refine h1.to ?_
  simp only [push_cast, simprocAttr]
  refine h2.to ?_
  simp only [push_cast, simprocAttr]
  refine h3.to ?_
  simp only [push_cast, simprocAttr, hev]
  refine h4.to ?_
  simp only [push_cast, simprocAttr]
end Go.Ab
end
section
/- Are two states the same? The program's answer. -/
set_option linter.unusedSimpArgs false
set_option linter.unusedVariables false
set_option maxRecDepth 10000
namespace Go.Ab
open Go.Proofs
variable {G : Glo} {h : Heap}
theorem cellsEq_wa (l : List (BitVec 32)) (ks : List CK) (T : List AV) : cellsEq (List.replicate l.length .i ++ ks) (wds l ++ T) (wds l ++ T) = cellsEq ks T T := by
  induction l with
  | nil => rfl
  | cons x r ih =>
    show cellsEq (.i :: (List.replicate r.length .i ++ ks)) (.int .u32 (x.toNat : Int) :: (wds r ++ T)) (.int .u32 (x.toNat : Int) :: (wds r ++ T)) = _
    rw [cellsEq, if_pos rfl, ih]
    simp
/-- A state's parts that are compared whole. -/
def plT (c : ICpu) : List AV := [.int .u32 (c.f.k.st.toNat : Int), .int .u32 (c.f.k.ie.toNat : Int), .int .u32 (c.f.k.tv.toNat : Int), .int .u32 (c.f.k.sc.toNat : Int), .int .u32 (c.f.k.ep.toNat : Int), .int .u32 (c.f.k.ca.toNat : Int), .int .u32 (c.f.k.tl.toNat : Int),
  .int .u64 (c.f.cyc.toNat : Int), .int .u64 (c.f.ins.toNat : Int), .int .u64 (c.tick.toNat : Int), .int .u64 (c.ret.toNat : Int), .bool c.bus.c.over, .bool c.bus.off, .int .i64 (c.bus.c.came : Int), .int .u64 (c.bus.t.off.toNat : Int), .int .u64 (c.bus.t.mark.toNat : Int), .bool c.bus.t.soft, .int .u32 (c.bus.code.toNat : Int)]
def plC (c : ICpu) : List AV := rec32 (.int .u32 (c.pc.toNat : Int)) c.regs (plT c)
theorem plC_self (c : ICpu) : aeq false [.i, .i, .i, .i, .i, .i, .i, .i, .i, .i, .i, .i, .i, .i, .i, .i, .i, .i, .i, .i, .i, .i, .i, .i, .i, .i, .i, .i, .i, .i, .i, .i, .i, .i, .i, .i, .i, .i, .i, .i, .i, .i, .i, .i, .b, .b, .i, .i, .i, .b, .i] (.agg (plC c)) (.agg (plC c)) = some (.bool true) := by
  have hl : c.regs.toList.length = 32 := by simp
  have := cellsEq_wa c.regs.toList [.i, .i, .i, .i, .i, .i, .i, .i, .i, .i, .i, .b, .b, .i, .i, .i, .b, .i] (plT c)
  rw [hl] at this
  have e2 : cellsEq [.i, .i, .i, .i, .i, .i, .i, .i, .i, .i, .i, .b, .b, .i, .i, .i, .b, .i] (plT c) (plT c) = some true := by simp [cellsEq, plT]
  rw [e2] at this
  have e3 : cellsEq [.i, .i, .i, .i, .i, .i, .i, .i, .i, .i, .i, .i, .i, .i, .i, .i, .i, .i, .i, .i, .i, .i, .i, .i, .i, .i, .i, .i, .i, .i, .i, .i, .i, .i, .i, .i, .i, .i, .i, .i, .i, .i, .i, .i, .b, .b, .i, .i, .i, .b, .i] (plC c) (plC c) = some true := by
    show cellsEq (.i :: (List.replicate 32 .i ++ [.i, .i, .i, .i, .i, .i, .i, .i, .i, .i, .i, .b, .b, .i, .i, .i, .b, .i])) (.int .u32 (c.pc.toNat : Int) :: (wds c.regs.toList ++ plT c)) (.int .u32 (c.pc.toNat : Int) :: (wds c.regs.toList ++ plT c)) = some true
    rw [cellsEq, if_pos rfl, this]
    simp
  show (cellsEq [.i, .i, .i, .i, .i, .i, .i, .i, .i, .i, .i, .i, .i, .i, .i, .i, .i, .i, .i, .i, .i, .i, .i, .i, .i, .i, .i, .i, .i, .i, .i, .i, .i, .i, .i, .i, .i, .i, .i, .i, .i, .i, .i, .i, .b, .b, .i, .i, .i, .b, .i] _ _).map _ = _
  rw [e3]; rfl
section
variable (x y : AV) (r : Rg) (T : List AV)
theorem rall51 (h : T.length = 18) : partOf (rec32 x r T) 0 (some 51) = some (.agg (rec32 x r T)) := r32_all x r T 51 (by omega)
theorem rspl0p : splice (x :: [.int .u32 0, .int .u32 0, .int .u32 0, .int .u32 0, .int .u32 0, .int .u32 0, .int .u32 0, .int .u32 0, .int .u32 0, .int .u32 0, .int .u32 0, .int .u32 0, .int .u32 0, .int .u32 0, .int .u32 0, .int .u32 0, .int .u32 0, .int .u32 0, .int .u32 0, .int .u32 0, .int .u32 0, .int .u32 0, .int .u32 0, .int .u32 0, .int .u32 0, .int .u32 0, .int .u32 0, .int .u32 0, .int .u32 0, .int .u32 0, .int .u32 0, .int .u32 0, .int .u32 0, .int .u32 0, .int .u32 0, .int .u32 0, .int .u32 0, .int .u32 0, .int .u32 0, .int .u64 0, .int .u64 0, .int .u64 0, .int .u64 0, .bool false, .bool false, .int .i64 0, .int .u64 0, .int .u64 0, .bool false, .int .u32 0]) 1 (wds r.toList) = rec32 x r [.int .u32 0, .int .u32 0, .int .u32 0, .int .u32 0, .int .u32 0, .int .u32 0, .int .u32 0, .int .u64 0, .int .u64 0, .int .u64 0, .int .u64 0, .bool false, .bool false, .int .i64 0, .int .u64 0, .int .u64 0, .bool false, .int .u32 0] := rspl x Rg.zero [.int .u32 0, .int .u32 0, .int .u32 0, .int .u32 0, .int .u32 0, .int .u32 0, .int .u32 0, .int .u64 0, .int .u64 0, .int .u64 0, .int .u64 0, .bool false, .bool false, .int .i64 0, .int .u64 0, .int .u64 0, .bool false, .int .u32 0] r
theorem rsp47 (a b d : AV) : splice (rec32 x r T) 47 [a, b, d] = rec32 x r (splice T 14 [a, b, d]) := r32_sp x r T 14 _ (by simp)
theorem rs50 : (rec32 x r T).set 50 y = rec32 x r (T.set 17 y) := r32_set x y r T 17
end
theorem plain_spec (c : ICpu) : Spec Tryz.prog G 46 [.agg (stC c)] h (Is (.agg (plC c)) h) := by
  have hk := kp_wds c.f.k
  have hsz : ∀ (x : AV) (r : Rg) (T : List AV), T.length = 18 → splice [.int .u32 0, .int .u32 0, .int .u32 0, .int .u32 0, .int .u32 0, .int .u32 0, .int .u32 0, .int .u32 0, .int .u32 0, .int .u32 0, .int .u32 0, .int .u32 0, .int .u32 0, .int .u32 0, .int .u32 0, .int .u32 0, .int .u32 0, .int .u32 0, .int .u32 0, .int .u32 0, .int .u32 0, .int .u32 0, .int .u32 0, .int .u32 0, .int .u32 0, .int .u32 0, .int .u32 0, .int .u32 0, .int .u32 0, .int .u32 0, .int .u32 0, .int .u32 0, .int .u32 0, .int .u32 0, .int .u32 0, .int .u32 0, .int .u32 0, .int .u32 0, .int .u32 0, .int .u32 0, .int .u64 0, .int .u64 0, .int .u64 0, .int .u64 0, .bool false, .bool false, .int .i64 0, .int .u64 0, .int .u64 0, .bool false, .int .u32 0] 0 (rec32 x r T) = rec32 x r T := fun x r T hT => by
    rw [splice_len (by rw [r32_len]; omega), r32_len, hT]
    simp
  refine Spec.is C46ok rfl ?_
  simp only [push_cast, simprocAttr]
  intro b hb0
  have m0 : upd h b ⟨[.int .u32 0, .int .u32 0, .int .u32 0, .int .u32 0, .int .u32 0, .int .u32 0, .int .u32 0, .int .u32 0, .int .u32 0, .int .u32 0, .int .u32 0, .int .u32 0, .int .u32 0, .int .u32 0, .int .u32 0, .int .u32 0, .int .u32 0, .int .u32 0, .int .u32 0, .int .u32 0, .int .u32 0, .int .u32 0, .int .u32 0, .int .u32 0, .int .u32 0, .int .u32 0, .int .u32 0, .int .u32 0, .int .u32 0, .int .u32 0, .int .u32 0, .int .u32 0, .int .u32 0, .int .u32 0, .int .u32 0, .int .u32 0, .int .u32 0, .int .u32 0, .int .u32 0, .int .u32 0, .int .u64 0, .int .u64 0, .int .u64 0, .int .u64 0, .bool false, .bool false, .int .i64 0, .int .u64 0, .int .u64 0, .bool false, .int .u32 0], 0⟩ b = some ⟨[.int .u32 0, .int .u32 0, .int .u32 0, .int .u32 0, .int .u32 0, .int .u32 0, .int .u32 0, .int .u32 0, .int .u32 0, .int .u32 0, .int .u32 0, .int .u32 0, .int .u32 0, .int .u32 0, .int .u32 0, .int .u32 0, .int .u32 0, .int .u32 0, .int .u32 0, .int .u32 0, .int .u32 0, .int .u32 0, .int .u32 0, .int .u32 0, .int .u32 0, .int .u32 0, .int .u32 0, .int .u32 0, .int .u32 0, .int .u32 0, .int .u32 0, .int .u32 0, .int .u32 0, .int .u32 0, .int .u32 0, .int .u32 0, .int .u32 0, .int .u32 0, .int .u32 0, .int .u32 0, .int .u64 0, .int .u64 0, .int .u64 0, .int .u64 0, .bool false, .bool false, .int .i64 0, .int .u64 0, .int .u64 0, .bool false, .int .u32 0], 0⟩ := upd_same _ _ _
  have s0 : Sub h (upd h b ⟨[.int .u32 0, .int .u32 0, .int .u32 0, .int .u32 0, .int .u32 0, .int .u32 0, .int .u32 0, .int .u32 0, .int .u32 0, .int .u32 0, .int .u32 0, .int .u32 0, .int .u32 0, .int .u32 0, .int .u32 0, .int .u32 0, .int .u32 0, .int .u32 0, .int .u32 0, .int .u32 0, .int .u32 0, .int .u32 0, .int .u32 0, .int .u32 0, .int .u32 0, .int .u32 0, .int .u32 0, .int .u32 0, .int .u32 0, .int .u32 0, .int .u32 0, .int .u32 0, .int .u32 0, .int .u32 0, .int .u32 0, .int .u32 0, .int .u32 0, .int .u32 0, .int .u32 0, .int .u32 0, .int .u64 0, .int .u64 0, .int .u64 0, .int .u64 0, .bool false, .bool false, .int .i64 0, .int .u64 0, .int .u64 0, .bool false, .int .u32 0], 0⟩) := (Sub.refl h).alloc hb0
  generalize upd h b ⟨[.int .u32 0, .int .u32 0, .int .u32 0, .int .u32 0, .int .u32 0, .int .u32 0, .int .u32 0, .int .u32 0, .int .u32 0, .int .u32 0, .int .u32 0, .int .u32 0, .int .u32 0, .int .u32 0, .int .u32 0, .int .u32 0, .int .u32 0, .int .u32 0, .int .u32 0, .int .u32 0, .int .u32 0, .int .u32 0, .int .u32 0, .int .u32 0, .int .u32 0, .int .u32 0, .int .u32 0, .int .u32 0, .int .u32 0, .int .u32 0, .int .u32 0, .int .u32 0, .int .u32 0, .int .u32 0, .int .u32 0, .int .u32 0, .int .u32 0, .int .u32 0, .int .u32 0, .int .u32 0, .int .u64 0, .int .u64 0, .int .u64 0, .int .u64 0, .bool false, .bool false, .int .i64 0, .int .u64 0, .int .u64 0, .bool false, .int .u32 0], 0⟩ = H0 at m0 s0 ⊢
  simp only [push_cast, simprocAttr, m0, hk, rs42, rs43, rs44, rs45, rs46, rsp47, rs50, rall51, rspl0p, rsp33', r32_len, hsz, IFile.cells, ITim.cells]
  refine ⟨rfl, fun x y hx => ?_⟩
  have hxb : x ≠ b := fun e => by rw [e, hb0] at hx; cases hx
  rw [upd_ne hxb]; exact s0 _ _ hx
theorem eqB_spec (a : List (BitVec 8)) (ha : a.length ≤ 1000000000000) : Spec Tryz.prog G 47 [byt a, byt a] h (Is (.bool true) h) := by
  refine Spec.is C47ok rfl ?_
  simp only [push_cast, simprocAttr]
  refine lpc.rel [0, 1, 12, 13] (fun m ρ h' => ∃ k : Nat, m = a.length - k ∧ k ≤ a.length ∧ h = h' ∧ ρ = [(0, byt a), (1, byt a), (12, .int .i64 (a.length : Nat)), (13, .int .i64 (k : Int))]) ⟨_, 0, rfl, by omega, rfl, rfl⟩ ?_
  rintro m _ _ ⟨k, rfl, hk, rfl, rfl⟩
  by_cases hk2 : k < a.length
  · simp (disch := omega) only [push_cast, simprocAttr, wrap_i64, toNat_ofInt64, Nat.min_eq_left, Int.toNat_of_nonneg, hk2, bne_self_eq_false]
    exact ⟨_, _, by omega, .refl _, k + 1, rfl, by omega, rfl, rfl⟩
  · obtain rfl : k = a.length := by omega
    have q : ¬ (a.length < a.length) := by omega
    simp only [push_cast, simprocAttr, q]
theorem eqE_nil : Spec Tryz.prog G 82 [.ro [] 0, .ro [] 0] h (Is (.bool true) h) := by
  refine Spec.is C82ok rfl ?_
  simp only [push_cast, simprocAttr]
  refine lpc.rel [0, 1, 12, 13] (fun m ρ h' => h = h' ∧ m = 0 ∧ ρ = [(0, .ro [] 0), (1, .ro [] 0), (12, .int .i64 0), (13, .int .i64 0)]) ⟨_, rfl, rfl, rfl⟩ ?_
  rintro m _ _ ⟨rfl, rfl, rfl⟩
  simp only [push_cast, simprocAttr]
theorem SameEv_nil : Spec Tryz.prog G 48 [.ro [] 0, .ro [] 0] h (Is (.bool true) h) := by
  refine Spec.is C48ok rfl ?_
  simp only [push_cast, simprocAttr]
  refine (eqE_nil (G := G)).to ?_
  simp only [push_cast, simprocAttr]
theorem cpuSame_spec (c : ICpu) (he : c.ev = []) (hb : c.bus.b.length ≤ 1000000000000) (hx : c.bus.c.rx.length ≤ 1000000000000) (ho : c.bus.c.out.length ≤ 1000000000000) : Spec Tryz.prog G 19 [.agg (stC c), .agg (stC c)] h (Is (.bool true) h) := by
  have hP := plain_spec (G := G) (h := h) c
  have hS := plC_self c
  have h1 := eqB_spec (G := G) (h := h) c.bus.b hb
  have h2 := eqB_spec (G := G) (h := h) c.bus.c.rx hx
  have h3 := eqB_spec (G := G) (h := h) c.bus.c.out ho
  have h4 := SameEv_nil (G := G) (h := h)
  have hev : evts c.ev = .ro [] 0 := by rw [he]; rfl
  refine Spec.is C19ok rfl ?_
  simp only [push_cast, simprocAttr]
  refine hP.to ?_
  simp only [push_cast, simprocAttr]
  refine hP.to ?_
  simp only [push_cast, simprocAttr, hS]
  refine h1.to ?_
  simp only [push_cast, simprocAttr]
  refine h2.to ?_
  simp only [push_cast, simprocAttr]
  refine h3.to ?_
  simp only [push_cast, simprocAttr, hev]
  refine h4.to ?_
  simp only [push_cast, simprocAttr]
end Go.Ab
end
section
/- Time, calls, and who is heard: the document's. -/
set_option linter.unusedSimpArgs false
set_option linter.unusedVariables false
set_option maxRecDepth 10000
namespace Go.Ab
open Go.Proofs
variable {G : Glo} {h : Heap}
theorem rNow_spec (t : ITim) (tick : BitVec 64) : Spec Tryz.prog G 163 [.agg t.cells, .int .u64 tick.toNat] h (Is (.int .u64 (t.now tick).toNat) h) := by
  have e : t.now tick = tick + t.off := rfl
  rw [e]
  refine Spec.is C163ok rfl ?_
  simp only [push_cast, simprocAttr, ITim.cells]
theorem rUp_spec (t : ITim) (tick : BitVec 64) : Spec Tryz.prog G 138 [.agg t.cells, .int .u64 tick.toNat] h (Is (.bool (t.up tick)) h) := by
  have e : t.up tick = decide (t.mark.toNat ≤ (t.now tick).toNat) := rfl
  have hn := rNow_spec (G := G) (h := h) t tick
  have hall : partOf t.cells 0 (some 3) = some (.agg t.cells) := rfl
  have h1 : t.cells[1]? = some (.int .u64 (t.mark.toNat : Int)) := rfl
  generalize t.up tick = u at *
  refine Spec.is C138ok rfl ?_
  simp only [push_cast, simprocAttr, hall, h1]
  refine hn.to ?_
  simp only [push_cast, simprocAttr, hall, h1]
  rw [e]
  congr 1
  rw [Bool.eq_iff_iff]; simp only [decide_eq_true_eq]; omega
theorem rCalls14_spec (b : IBus) (tick : BitVec 64) : Spec Tryz.prog G 103 [.agg b.cells, .int .u64 tick.toNat] h (Is (.int .u32 (b.calls tick).toNat) h) := by
  have hu := rUp_spec (G := G) (h := h) b.t tick
  have e : b.calls tick = callsN b.t.soft (b.t.up tick) (decide (0 < b.c.rx.length)) := rfl
  rw [e]
  clear e
  generalize b.t.up tick = u at *
  rcases hs : b.t.soft with _ | _ <;> rcases hr : decide (0 < b.c.rx.length) with _ | _ <;> cases u <;>
  · first
    | have hr' : (b.c.rx.length : Int) > 0 := by have := of_decide_eq_true hr; omega
    | have hr' : ¬ ((b.c.rx.length : Int) > 0) := by have := of_decide_eq_false hr; omega
    refine Spec.is C103ok rfl ?_
    simp only [push_cast, simprocAttr, hs]
    refine hu.to ?_
    simp only [push_cast, simprocAttr, hs, hr']
    first | done | rfl
def bitN (w : BitVec 32) (n : Nat) : BitVec 32 := BitVec.ofNat 32 (w.toNat / 2 ^ n % 2)
theorem bit17_spec (w : BitVec 32) (n : Nat) (hn : n ≤ 31) : Spec Tryz.prog G 102 [.int .u32 w.toNat, .int .i64 n] h (Is (.int .u32 (bitN w n).toNat) h) := by
  have hB := Bits_spec (G := G) (h := h) w n 1 hn (by omega)
  have e : BitVec.ofNat 32 (fld w n 1) = bitN w n := rfl
  rw [e] at hB
  refine Spec.is C102ok rfl ?_
  simp only [push_cast, simprocAttr]
  refine hB.to ?_
  simp only [push_cast, simprocAttr]
theorem bitN_lt (w : BitVec 32) (n : Nat) : (bitN w n).toNat < 2 := by
  have := Nat.mod_lt (w.toNat / 2 ^ n) (y := 2) (by omega)
  rw [bitN, BitVec.toNat_ofNat, Nat.mod_eq_of_lt (by simp; omega)]
  exact this
theorem bit_sum {x y : BitVec 32} (hx : x.toNat < 2) (hy : y.toNat < 2) : ((x + y).toNat : Int) = (x.toNat : Int) + (y.toNat : Int) := by
  rw [BitVec.toNat_add, Nat.mod_eq_of_lt (by simp; omega)]; simp
def hitN (k : Kp) (calls : BitVec 32) (n : Nat) : Bool := decide ((bitN calls n).toNat + (bitN k.ie n).toNat = 2)
def heardN (k : Kp) (calls : BitVec 32) : Bool := decide ((bitN k.st 3).toNat ≠ 0) && (hitN k calls 11 || hitN k calls 3 || hitN k calls 7)
def heardW (k : Kp) (calls : BitVec 32) : Int := if (bitN k.st 3).toNat = 0 then 0 else if hitN k calls 11 then 2147483659 else if hitN k calls 3 then 2147483651 else if hitN k calls 7 then 2147483655 else 0
theorem ad11 : abin .add (.int .u32 2147483648) (.int .u32 11) = some (.int .u32 2147483659) := rfl
theorem ad3 : abin .add (.int .u32 2147483648) (.int .u32 3) = some (.int .u32 2147483651) := rfl
theorem ad7 : abin .add (.int .u32 2147483648) (.int .u32 7) = some (.int .u32 2147483655) := rfl
theorem ww11 : IntKind.u32.wrap 2147483659 = 2147483659 := by decide
theorem ww3 : IntKind.u32.wrap 2147483651 = 2147483651 := by decide
theorem ww7 : IntKind.u32.wrap 2147483655 = 2147483655 := by decide
theorem Heard_spec (k : Kp) (calls : BitVec 32) : Spec Tryz.prog G 69 [.agg (wds k.l), .int .u32 calls.toNat] h (Is (.tup [.int .u32 (heardW k calls), .bool (heardN k calls)]) h) := by
  have hk := kp_wds k
  have e1 : heardN k calls = (decide ((bitN k.st 3).toNat ≠ 0) && (hitN k calls 11 || hitN k calls 3 || hitN k calls 7)) := rfl
  have e2 : heardW k calls = if (bitN k.st 3).toNat = 0 then 0 else if hitN k calls 11 then 2147483659 else if hitN k calls 3 then 2147483651 else if hitN k calls 7 then 2147483655 else 0 := rfl
  have hb := bit17_spec (G := G) (h := h) k.st 3 (by omega)
  have c11 := bit17_spec (G := G) (h := h) calls 11 (by omega)
  have c3 := bit17_spec (G := G) (h := h) calls 3 (by omega)
  have c7 := bit17_spec (G := G) (h := h) calls 7 (by omega)
  have i11 := bit17_spec (G := G) (h := h) k.ie 11 (by omega)
  have i3 := bit17_spec (G := G) (h := h) k.ie 3 (by omega)
  have i7 := bit17_spec (G := G) (h := h) k.ie 7 (by omega)
  have l1 := bitN_lt calls 11
  have l2 := bitN_lt calls 3
  have l3 := bitN_lt calls 7
  have l4 := bitN_lt k.ie 11
  have l5 := bitN_lt k.ie 3
  have l6 := bitN_lt k.ie 7
  have q1 : hitN k calls 11 = decide ((bitN calls 11).toNat + (bitN k.ie 11).toNat = 2) := rfl
  have q2 : hitN k calls 3 = decide ((bitN calls 3).toNat + (bitN k.ie 3).toNat = 2) := rfl
  have q3 : hitN k calls 7 = decide ((bitN calls 7).toNat + (bitN k.ie 7).toNat = 2) := rfl
  generalize hitN k calls 11 = t1 at *
  generalize hitN k calls 3 = t2 at *
  generalize hitN k calls 7 = t3 at *
  generalize heardN k calls = X at *
  generalize heardW k calls = W at *
  generalize bitN calls 11 = x1 at *
  generalize bitN calls 3 = x2 at *
  generalize bitN calls 7 = x3 at *
  generalize bitN k.ie 11 = y1 at *
  generalize bitN k.ie 3 = y2 at *
  generalize bitN k.ie 7 = y3 at *
  generalize bitN k.st 3 = b3 at *
  refine Spec.is C69ok rfl ?_
  simp only [push_cast, simprocAttr, hk]
  refine hb.to ?_
  by_cases h0 : b3.toNat = 0
  · have h0' : (b3.toNat : Int) = 0 := by omega
    rw [if_pos h0] at e2
    rw [decide_eq_false (fun q => q h0), Bool.false_and] at e1
    rw [e1, e2]
    simp only [push_cast, simprocAttr, h0']
  · have h0' : ¬ ((b3.toNat : Int) = 0) := by omega
    rw [if_neg h0] at e2
    rw [decide_eq_true h0, Bool.true_and] at e1
    simp only [push_cast, simprocAttr, h0']
    refine lpc.rel [1, 2, 6, 7] (fun m ρ h' => ∃ n : Nat, m = 3 - n ∧ n ≤ 3 ∧ h = h' ∧ (1 ≤ n → x1.toNat + y1.toNat ≠ 2) ∧ (2 ≤ n → x2.toNat + y2.toNat ≠ 2) ∧ (3 ≤ n → x3.toNat + y3.toNat ≠ 2) ∧ ρ = [(1, .int .u32 calls.toNat), (2, .cp [.int .u32 (k.st.toNat : Int), .int .u32 (k.ie.toNat : Int), .int .u32 (k.tv.toNat : Int), .int .u32 (k.sc.toNat : Int), .int .u32 (k.ep.toNat : Int), .int .u32 (k.ca.toNat : Int), .int .u32 (k.tl.toNat : Int)] 0), (6, .ro [.int .i64 11, .int .i64 3, .int .i64 7] 3), (7, .int .i64 (n : Int))]) ⟨_, 0, rfl, by omega, rfl, by omega, by omega, by omega, rfl⟩ ?_
    rintro m _ _ ⟨n, rfl, hn, rfl, n1, n2, n3, rfl⟩
    match n, hn with
    | 0, _ =>
      simp only [push_cast, simprocAttr]
      refine c11.to ?_
      simp only [push_cast, simprocAttr, hk]
      refine i11.to ?_
      by_cases g : x1.toNat + y1.toNat = 2
      · have g' : ((x1 + y1).toNat : Int) = 2 := by rw [bit_sum (by omega) (by omega)]; omega
        simp only [push_cast, simprocAttr, g', ww11, ww3, ww7]
        rw [decide_eq_true g] at q1
        rw [q1] at e1 e2
        rw [e1, e2]; rfl
      · have g' : ¬ (((x1 + y1).toNat : Int) = 2) := by rw [bit_sum (by omega) (by omega)]; omega
        simp only [push_cast, simprocAttr, g', ww11, ww3, ww7]
        exact ⟨_, _, by omega, .refl _, 1, rfl, by omega, rfl, fun _ => g, by omega, by omega, rfl⟩
    | 1, _ =>
      have n1 := n1 (by omega)
      simp only [push_cast, simprocAttr]
      refine c3.to ?_
      simp only [push_cast, simprocAttr, hk]
      refine i3.to ?_
      by_cases g : x2.toNat + y2.toNat = 2
      · have g' : ((x2 + y2).toNat : Int) = 2 := by rw [bit_sum (by omega) (by omega)]; omega
        simp only [push_cast, simprocAttr, g', ww11, ww3, ww7]
        rw [decide_eq_false n1] at q1
        rw [decide_eq_true g] at q2
        rw [q1, q2] at e1 e2
        rw [e1, e2]; rfl
      · have g' : ¬ (((x2 + y2).toNat : Int) = 2) := by rw [bit_sum (by omega) (by omega)]; omega
        simp only [push_cast, simprocAttr, g', ww11, ww3, ww7]
        exact ⟨_, _, by omega, .refl _, 2, rfl, by omega, rfl, fun _ => n1, fun _ => g, by omega, rfl⟩
    | 2, _ =>
      have n1 := n1 (by omega)
      have n2 := n2 (by omega)
      simp only [push_cast, simprocAttr]
      refine c7.to ?_
      simp only [push_cast, simprocAttr, hk]
      refine i7.to ?_
      by_cases g : x3.toNat + y3.toNat = 2
      · have g' : ((x3 + y3).toNat : Int) = 2 := by rw [bit_sum (by omega) (by omega)]; omega
        simp only [push_cast, simprocAttr, g', ww11, ww3, ww7]
        rw [decide_eq_false n1] at q1
        rw [decide_eq_false n2] at q2
        rw [decide_eq_true g] at q3
        rw [q1, q2, q3] at e1 e2
        rw [e1, e2]; rfl
      · have g' : ¬ (((x3 + y3).toNat : Int) = 2) := by rw [bit_sum (by omega) (by omega)]; omega
        simp only [push_cast, simprocAttr, g', ww11, ww3, ww7]
        exact ⟨_, _, by omega, .refl _, 3, rfl, by omega, rfl, fun _ => n1, fun _ => n2, fun _ => g, rfl⟩
    | 3, _ =>
      have n1 := n1 (by omega)
      have n2 := n2 (by omega)
      have n3 := n3 (by omega)
      simp only [push_cast, simprocAttr]
      rw [decide_eq_false n1] at q1
      rw [decide_eq_false n2] at q2
      rw [decide_eq_false n3] at q3
      rw [q1, q2, q3] at e1 e2
      rw [e1, e2]; rfl
end Go.Ab
end
section
/- For how long nobody is heard: the document's. -/
set_option linter.unusedSimpArgs false
set_option linter.unusedVariables false
set_option maxRecDepth 10000
namespace Go.Ab
open Go.Proofs
variable {G : Glo} {h : Heap}
/-- Has one come of those that are to come, till a tick? -/
def someA (c : ICpu) (tick : BitVec 64) (k : Nat) : Bool := (List.range k).any fun i => decide (c.bus.c.came ≤ i) && decide ((c.bus.c.l.getD i IArr.zero).tick.toNat ≤ tick.toNat)
theorem someA_step (c : ICpu) (tick : BitVec 64) (k : Nat) : someA c tick (k + 1) = (someA c tick k || (decide (c.bus.c.came ≤ k) && decide ((c.bus.c.l.getD k IArr.zero).tick.toNat ≤ tick.toNat))) := by
  rw [someA, List.range_succ, List.any_append]; simp [someA]
theorem someA_came (c : ICpu) (tick : BitVec 64) : someA c tick c.bus.c.came = false := by
  rw [someA, List.any_eq_false]
  intro i hi
  have := List.mem_range.1 hi
  simp; omega
def rxC (c : ICpu) (b : Bool) : ICpu := if b then { c with bus := { c.bus with c := { c.bus.c with rx := [1#8] } } } else c
theorem rxC_l (c : ICpu) (b : Bool) : (rxC c b).bus.c.l = c.bus.c.l := by cases b <;> rfl
theorem rxC_t (c : ICpu) (b : Bool) : (rxC c b).bus.t = c.bus.t := by cases b <;> rfl
theorem rxC_set (c : ICpu) (b : Bool) : (rxC c b).cells.set 47 (.ro [.int .u8 1] 1) = (rxC c true).cells := by
  have := cpu_s47 (rxC c b) [1#8]
  have e : (AV.ro (bys [1#8]) [1#8].length) = .ro [.int .u8 1] 1 := rfl
  rw [e] at this
  rw [this]
  cases b <;> rfl
/-- Who calls at a tick, if nothing is done till then. -/
def callsAt (c : ICpu) (tick : BitVec 64) : BitVec 32 := (rxC c (someA c tick c.bus.c.l.length)).bus.calls tick
theorem calls25_spec (c : ICpu) (tick : BitVec 64) (hc : c.bus.c.came ≤ c.bus.c.l.length) (hl : c.bus.c.l.length ≤ 256) : Spec Tryz.prog G 70 [.agg c.cells, .int .u64 tick.toNat] h (Is (.int .u32 (callsAt c tick).toNat) h) := by
  have hA : callsAt c tick = (rxC c (someA c tick c.bus.c.l.length)).bus.calls tick := rfl
  have h0 : rxC c (someA c tick c.bus.c.came) = c := by rw [someA_came]; rfl
  generalize callsAt c tick = X at *
  refine Spec.is C70ok rfl ?_
  simp only [push_cast, simprocAttr]
  intro b hb
  refine lpc.rel [1, 2, 5] (fun m ρ H => ∃ k : Nat, m = c.bus.c.l.length - k ∧ c.bus.c.came ≤ k ∧ k ≤ c.bus.c.l.length ∧ H = upd h b ⟨(rxC c (someA c tick k)).cells, 0⟩ ∧ ρ = [(1, .int .u64 tick.toNat), (2, .ptr b 0), (5, .int .i64 (k : Int))]) ⟨_, c.bus.c.came, rfl, by omega, hc, by rw [h0], rfl⟩ ?_
  rintro m _ _ ⟨k, rfl, hk1, hk, rfl, rfl⟩
  have hst := someA_step c tick k
  rw [decide_eq_true hk1, Bool.true_and] at hst
  have hll := rxC_l c (someA c tick k)
  have hset := rxC_set c (someA c tick k)
  have htr : rxC (rxC c (someA c tick k)) false = rxC c (someA c tick k) := rfl
  by_cases hk2 : k < c.bus.c.l.length
  · by_cases hlt : (c.bus.c.l.getD k IArr.zero).tick.toNat ≤ tick.toNat
    · rw [decide_eq_true hlt, Bool.or_true] at hst
      generalize rxC c (someA c tick k) = c1 at *
      have hln := congrArg List.length hll
      rw [← hll] at hk2 hlt hl hk
      generalize hga : c1.bus.c.l.getD k IArr.zero = a at *
      have hlt' : (a.tick.toNat : Int) ≤ (tick.toNat : Int) := by omega
      simp (disch := omega) only [push_cast, simprocAttr, wrap_i64, toNat_ofInt64, Nat.min_eq_left, Int.toNat_of_nonneg, hk2, hga, hlt', hset]
      refine ⟨_, _, by omega, .refl _, k + 1, rfl, by omega, by omega, by rw [hst], rfl⟩
    · rw [decide_eq_false hlt, Bool.or_false] at hst
      rw [← hst] at hll hset htr ⊢
      generalize hc1 : rxC c (someA c tick (k + 1)) = c1 at *
      have hln := congrArg List.length hll
      rw [← hll] at hk2 hlt hl hk
      generalize hga : c1.bus.c.l.getD k IArr.zero = a at *
      have hlt' : ¬ ((a.tick.toNat : Int) ≤ (tick.toNat : Int)) := by omega
      simp (disch := omega) only [push_cast, simprocAttr, wrap_i64, toNat_ofInt64, Nat.min_eq_left, Int.toNat_of_nonneg, hk2, hga, hlt']
      refine ⟨_, _, by omega, .refl _, k + 1, rfl, by omega, by omega, by rw [hc1], rfl⟩
  · obtain rfl : k = c.bus.c.l.length := by omega
    have hB := fun H => rCalls14_spec (G := G) (h := H) (rxC c (someA c tick c.bus.c.l.length)).bus tick
    rw [← hA] at hB
    generalize rxC c (someA c tick c.bus.c.l.length) = c1 at *
    have q : ¬ (c1.bus.c.l.length < c1.bus.c.l.length) := by omega
    rw [← hll]
    simp only [push_cast, simprocAttr, q]
    refine (hB _).to ?_
    simp only [push_cast, simprocAttr]
    exact (Sub.refl h).alloc hb
/-- Is somebody heard at a tick? -/
def heardAt (c : ICpu) (d : Nat) : Bool := heardN c.f.k (callsAt c (c.tick + BitVec.ofNat 64 d))
theorem Quiet25_spec (c : ICpu) (n : Nat) (hc : c.bus.c.came ≤ c.bus.c.l.length) (hl : c.bus.c.l.length ≤ 256) (hn : n ≤ 100000) : Spec Tryz.prog G 42 [.agg c.cells, .int .i64 n] h (Is (.bool (allN n fun d => !heardAt c d)) h) := by
  generalize hX : (allN n fun d => !heardAt c d) = X
  refine Spec.is C42ok rfl ?_
  simp only [push_cast, simprocAttr]
  refine lpc.rel [1, 2, 5] (fun m ρ H => ∃ k : Nat, m = n - k ∧ k ≤ n ∧ h = H ∧ (∀ i, i < k → (!heardAt c i) = true) ∧ ρ = [(1, .int .i64 (n : Int)), (2, .cp c.cells 0), (5, .int .i64 (k : Int))]) ⟨_, 0, rfl, by omega, rfl, by intro i hi; omega, rfl⟩ ?_
  rintro m _ _ ⟨k, rfl, hk, rfl, hall, rfl⟩
  by_cases hk2 : k < n
  · have hC := calls25_spec (G := G) (h := h) c (c.tick + BitVec.ofNat 64 k) hc hl
    have hH := Heard_spec (G := G) (h := h) c.f.k (callsAt c (c.tick + BitVec.ofNat 64 k))
    have e : heardAt c k = heardN c.f.k (callsAt c (c.tick + BitVec.ofNat 64 k)) := rfl
    rw [← e] at hH
    have hk3 : (k : Int) < n := by omega
    have hof : BitVec.ofInt 64 (k : Int) = BitVec.ofNat 64 k := BitVec.ofInt_natCast _ _
    simp only [push_cast, simprocAttr, hk2, hk3, hof]
    refine hC.to ?_
    simp only [push_cast, simprocAttr]
    refine hH.to ?_
    rcases hd : heardAt c k with _ | _
    · simp (disch := omega) only [push_cast, simprocAttr, wrap_i64, toNat_ofInt64, Nat.min_eq_left, Int.toNat_of_nonneg]
      refine ⟨_, _, by omega, .refl _, k + 1, rfl, by omega, rfl, fun i hi => ?_, rfl⟩
      by_cases hik : i = k
      · rw [hik, hd]
      · have := hall i (by omega); simpa using this
    · simp only [push_cast, simprocAttr]
      rw [← hX, allN_false k hk2 (by show (!heardAt c k) = false; rw [hd]; rfl)]
  · obtain rfl : k = n := by omega
    have q : ¬ ((k : Int) < k) := by omega
    simp only [push_cast, simprocAttr, q]
    rw [← hX, allN_true hall]
end Go.Ab
end
section
/- For how long nobody is heard: the same in both (the plain law). -/
set_option linter.unusedSimpArgs false
set_option linter.unusedVariables false
namespace Go.Ab
open Go.Proofs
theorem bitN_and (w : BitVec 32) (n : Nat) : (bitN w n).toNat = if w.getLsbD n then 1 else 0 := by
  have h1 := Nat.mod_lt (w.toNat / 2 ^ n) (y := 2) (by omega)
  rw [bitN, BitVec.toNat_ofNat, Nat.mod_eq_of_lt (by simp; omega)]
  rw [BitVec.getLsbD, Nat.testBit_eq_decide_div_mod_eq]
  by_cases h : w.toNat / 2 ^ n % 2 = 1
  · simp [h]
  · have : w.toNat / 2 ^ n % 2 = 0 := by omega
    simp [this]
theorem hit_eq (k : Kp) (calls : BitVec 32) (n : Nat) : hitN k calls n = (calls.getLsbD n && k.ie.getLsbD n) := by
  rw [hitN, bitN_and, bitN_and]
  cases calls.getLsbD n <;> cases k.ie.getLsbD n <;> rfl
/-- One bit of a word. -/
theorem bit_and (w : BitVec 32) (n : Nat) (hn : n < 32) : (w &&& BitVec.ofNat 32 (2 ^ n) = 0#32) ↔ w.getLsbD n = false := by
  have hb : ∀ i, i < 32 → (BitVec.ofNat 32 (2 ^ n)).getLsbD i = decide (n = i) := fun i hi => by
    rw [BitVec.getLsbD_ofNat, Nat.testBit_two_pow]; simp [hi]
  constructor
  · intro h
    have := congrArg (fun x : BitVec 32 => x.getLsbD n) h
    simp only [BitVec.getLsbD_and, hb n hn, decide_true, Bool.and_true] at this
    rw [this]; simp
  · intro h
    apply BitVec.eq_of_getLsbD_eq
    intro i hi
    rw [BitVec.getLsbD_and, hb i hi]
    by_cases h3 : n = i
    · subst h3; simp [h]
    · simp [h3]
theorem callsN_bits (s u r : Bool) : (callsN s u r).getLsbD 3 = s ∧ (callsN s u r).getLsbD 7 = u ∧ (callsN s u r).getLsbD 11 = r := by
  cases s <;> cases u <;> cases r <;> decide
theorem bv_or0 (x y : BitVec 32) : x ||| y = 0#32 ↔ x = 0#32 ∧ y = 0#32 := by
  constructor
  · intro h
    have hb : ∀ i : Nat, (x.getLsbD i || y.getLsbD i) = false := fun i => by
      have := congrArg (fun z : BitVec 32 => z.getLsbD i) h
      simpa using this
    refine ⟨BitVec.eq_of_getLsbD_eq fun i hi => ?_, BitVec.eq_of_getLsbD_eq fun i hi => ?_⟩
    · have := hb i; rw [Bool.or_eq_false_iff] at this; rw [this.1]; simp
    · have := hb i; rw [Bool.or_eq_false_iff] at this; rw [this.2]; simp
  · rintro ⟨rfl, rfl⟩; rfl
theorem wakes_eq (k : Kp) (calls : BitVec 32) : wakesN k calls = ((calls.getLsbD 11 && k.ie.getLsbD 11) || (calls.getLsbD 3 && k.ie.getLsbD 3) || (calls.getLsbD 7 && k.ie.getLsbD 7)) := by
  have e : (2184#32 : BitVec 32) = BitVec.ofNat 32 (2 ^ 11) ||| BitVec.ofNat 32 (2 ^ 3) ||| BitVec.ofNat 32 (2 ^ 7) := by decide
  rw [wakesN, e, Bool.eq_iff_iff, decide_eq_true_eq, BitVec.and_or_distrib_left, BitVec.and_or_distrib_left, ne_eq, bv_or0, bv_or0, bit_and _ _ (by omega), bit_and _ _ (by omega), bit_and _ _ (by omega), BitVec.getLsbD_and, BitVec.getLsbD_and, BitVec.getLsbD_and]
  cases calls.getLsbD 11 <;> cases calls.getLsbD 3 <;> cases calls.getLsbD 7 <;> cases k.ie.getLsbD 11 <;> cases k.ie.getLsbD 3 <;> cases k.ie.getLsbD 7 <;> decide
def readyAt (c : ICpu) (tick : BitVec 64) : Bool := decide (0 < c.bus.c.rx.length) || someA c tick c.bus.c.l.length
theorem callsAt_eq (c : ICpu) (tick : BitVec 64) : callsAt c tick = callsN c.bus.t.soft (c.bus.t.up tick) (readyAt c tick) := by
  rw [callsAt, readyAt]
  cases someA c tick c.bus.c.l.length
  · rw [Bool.or_false]; rfl
  · rw [Bool.or_true]; rfl
theorem heard_eq (c : ICpu) (d : Nat) : heardAt c d = (c.f.k.st.getLsbD 3 && ((readyAt c (c.tick + BitVec.ofNat 64 d) && c.f.k.ie.getLsbD 11) || (c.bus.t.soft && c.f.k.ie.getLsbD 3) || (c.bus.t.up (c.tick + BitVec.ofNat 64 d) && c.f.k.ie.getLsbD 7))) := by
  obtain ⟨b3, b7, b11⟩ := callsN_bits c.bus.t.soft (c.bus.t.up (c.tick + BitVec.ofNat 64 d)) (readyAt c (c.tick + BitVec.ofNat 64 d))
  rw [heardAt, heardN, callsAt_eq, hit_eq, hit_eq, hit_eq, b3, b7, b11, bitN_and]
  cases c.f.k.st.getLsbD 3 <;> simp
theorem wakes0_eq (c : ICpu) : wakesN c.f.k (c.bus.calls c.tick) = ((decide (0 < c.bus.c.rx.length) && c.f.k.ie.getLsbD 11) || (c.bus.t.soft && c.f.k.ie.getLsbD 3) || (c.bus.t.up c.tick && c.f.k.ie.getLsbD 7)) := by
  obtain ⟨b3, b7, b11⟩ := callsN_bits c.bus.t.soft (c.bus.t.up c.tick) (decide (0 < c.bus.c.rx.length))
  rw [wakes_eq]
  show (((callsN _ _ _).getLsbD 11 && _) || ((callsN _ _ _).getLsbD 3 && _) || ((callsN _ _ _).getLsbD 7 && _)) = _
  rw [b3, b7, b11]
/-- One of those to come is there if the first is. -/
theorem someA_eq (c : ICpu) (tick : BitVec 64) (hs : ∀ i, i < c.bus.c.l.length → riseN c.bus.c.l i = true) : someA c tick c.bus.c.l.length = (decide (c.bus.c.came < c.bus.c.l.length) && decide ((c.bus.c.l.getD c.bus.c.came IArr.zero).tick.toNat ≤ tick.toNat)) := by
  have hm : ∀ j i, i + j < c.bus.c.l.length → (c.bus.c.l.getD i IArr.zero).tick.toNat ≤ (c.bus.c.l.getD (i + j) IArr.zero).tick.toNat := by
    intro j
    induction j with
    | zero => intro i _; exact Nat.le_refl _
    | succ j ih =>
      intro i hi
      have h1 := ih i (by omega)
      have h2 := hs (i + (j + 1)) hi
      rw [riseN, decide_eq_false (by omega), Bool.false_or] at h2
      have h2 := of_decide_eq_true h2
      rw [show i + (j + 1) - 1 = i + j by omega] at h2
      omega
  rw [Bool.eq_iff_iff, someA, List.any_eq_true]
  simp only [Bool.and_eq_true, decide_eq_true_eq, List.mem_range]
  constructor
  · rintro ⟨i, hi, h1, h2⟩
    have := hm (i - c.bus.c.came) c.bus.c.came (by omega)
    rw [show c.bus.c.came + (i - c.bus.c.came) = i by omega] at this
    exact ⟨by omega, by omega⟩
  · rintro ⟨h1, h2⟩
    exact ⟨_, h1, Nat.le_refl _, h2⟩
theorem ifc {p q : Prop} [Decidable p] [Decidable q] (h : p ↔ q) (x y : Int) : (if p then x else y) = if q then x else y := by
  by_cases hp : p
  · rw [if_pos hp, if_pos (h.1 hp)]
  · rw [if_neg hp, if_neg (fun e => hp (h.2 e))]
theorem quiet_iff (c : ICpu) (n : Nat) (hn1 : 1 ≤ n) (hn : n ≤ 32) (hs : ∀ i, i < c.bus.c.l.length → riseN c.bus.c.l i = true) (ht : c.tick.toNat < 1152921504606846976) (ho : c.bus.t.off.toNat < 1152921504606846976) :
    ((n : Int) ≤ c.quiet) ↔ (allN n fun d => !heardAt c d) = true := by
  have hR : ((allN n fun d => !heardAt c d) = true) ↔ ∀ d, d < n → heardAt c d = false := by
    constructor
    · intro h d hd
      have := allN_get h d hd
      simpa using this
    · intro h
      exact allN_true fun i hi => by rw [h i hi]; rfl
  rw [hR]
  have htd : ∀ d, d ≤ 32 → (c.tick + BitVec.ofNat 64 d).toNat = c.tick.toNat + d := fun d hd => by
    rw [BitVec.toNat_add, BitVec.toNat_ofNat]; omega
  have hup : ∀ d, d ≤ 32 → c.bus.t.up (c.tick + BitVec.ofNat 64 d) = decide (c.bus.t.mark.toNat ≤ c.tick.toNat + d + c.bus.t.off.toNat) := fun d hd => by
    have : (c.bus.t.now (c.tick + BitVec.ofNat 64 d)).toNat = c.tick.toNat + d + c.bus.t.off.toNat := by
      rw [ITim.now, BitVec.toNat_add, htd d hd]; omega
    rw [ITim.up, this]
  have hup0 : c.bus.t.up c.tick = decide (c.bus.t.mark.toNat ≤ c.tick.toNat + c.bus.t.off.toNat) := by
    have := hup 0 (by omega)
    simpa using this
  have hleft : c.bus.t.up c.tick = false → ((c.bus.t.left c.tick).toNat : Int) = (c.bus.t.mark.toNat : Int) - (c.tick.toNat : Int) - (c.bus.t.off.toNat : Int) := fun h => by
    have hh := h
    rw [hup0] at hh
    have hh := of_decide_eq_false hh
    have e : (c.bus.t.now c.tick).toNat = c.tick.toNat + c.bus.t.off.toNat := by rw [ITim.now, BitVec.toNat_add]; omega
    rw [ITim.left, h, if_neg (by simp), BitVec.toNat_sub_of_le (by rw [BitVec.le_def]; omega), e]
    omega
  have hrd : ∀ d, d ≤ 32 → readyAt c (c.tick + BitVec.ofNat 64 d) = (decide (0 < c.bus.c.rx.length) || (decide (c.bus.c.came < c.bus.c.l.length) && decide ((c.bus.c.l.getD c.bus.c.came IArr.zero).tick.toNat ≤ c.tick.toNat + d))) := fun d hd => by
    rw [readyAt, someA_eq c _ hs, htd d hd]
  have hnx2 : c.bus.c.next.2 = decide (c.bus.c.came < c.bus.c.l.length) := by
    rw [ICon.next]; split
    · next h => rw [decide_eq_true h]
    · next h => rw [decide_eq_false h]
  have hnx1 : c.bus.c.came < c.bus.c.l.length → c.bus.c.next.1 = (c.bus.c.l.getD c.bus.c.came IArr.zero).tick := fun h => by rw [ICon.next, if_pos h]
  have e8 : (c.f.k.st &&& 8#32 = 0#32) ↔ c.f.k.st.getLsbD 3 = false := bit_and _ 3 (by omega)
  have e11 : (c.f.k.ie &&& 2048#32 = 0#32) ↔ c.f.k.ie.getLsbD 11 = false := bit_and _ 11 (by omega)
  have e7 : (c.f.k.ie &&& 128#32 = 0#32) ↔ c.f.k.ie.getLsbD 7 = false := bit_and _ 7 (by omega)
  have hw := wakes0_eq c
  have hh := heard_eq c
  have hsub := subI_v c.bus.c.next.1 c.tick
  have hq : c.quiet = if c.f.k.st.getLsbD 3 = false then 18446744073709551615 else if wakesN c.f.k (c.bus.calls c.tick) then 0 else
      if c.f.k.ie.getLsbD 7 = false then (if decide (c.bus.c.came < c.bus.c.l.length) = true ∧ ¬ c.f.k.ie.getLsbD 11 = false then subI c.bus.c.next.1 c.tick else 18446744073709551615) else mI (if decide (c.bus.c.came < c.bus.c.l.length) = true ∧ ¬ c.f.k.ie.getLsbD 11 = false then subI c.bus.c.next.1 c.tick else 18446744073709551615) ((c.bus.t.left c.tick).toNat : Int) := by
    have i1 : ∀ (x y : Int), (if c.f.k.st &&& 8#32 = 0#32 then x else y) = if c.f.k.st.getLsbD 3 = false then x else y := fun x y => ifc e8 x y
    have i2 : ∀ (x y : Int), (if c.f.k.ie &&& 128#32 = 0#32 then x else y) = if c.f.k.ie.getLsbD 7 = false then x else y := fun x y => ifc e7 x y
    have i3 : ∀ (x y : Int), (if c.bus.c.next.2 = true ∧ ¬ c.f.k.ie &&& 2048#32 = 0#32 then x else y) = if decide (c.bus.c.came < c.bus.c.l.length) = true ∧ ¬ c.f.k.ie.getLsbD 11 = false then x else y := fun x y => ifc (by rw [hnx2, e11]) x y
    rw [ICpu.quiet, i1]
    simp only
    rw [i2, i3]
  generalize c.f.k.st.getLsbD 3 = s3 at *
  generalize c.f.k.ie.getLsbD 11 = i11 at *
  generalize c.f.k.ie.getLsbD 7 = i7 at *
  generalize c.f.k.ie.getLsbD 3 = i3 at *
  generalize wakesN c.f.k (c.bus.calls c.tick) = wk at *
  generalize c.quiet = q at *
  cases s3 with
  | false =>
    rw [if_pos rfl] at hq
    constructor
    · intro _ d hd; rw [hh d]; rfl
    · intro _; omega
  | true =>
    rw [if_neg (by simp)] at hq
    have hh : ∀ d, d < n → heardAt c d = ((readyAt c (c.tick + BitVec.ofNat 64 d) && i11) || (c.bus.t.soft && i3) || (c.bus.t.up (c.tick + BitVec.ofNat 64 d) && i7)) := fun d _ => by rw [hh d, Bool.true_and]
    cases hwk : wk with
    | true =>
      rw [hwk, if_pos rfl] at hq
      rw [hwk] at hw
      constructor
      · intro h; omega
      · intro h
        have h0 := h 0 (by omega)
        rw [hh 0 (by omega), hrd 0 (by omega), hup 0 (by omega)] at h0
        rw [hup0] at hw
        simp only [Nat.add_zero] at h0
        exfalso
        have hw := hw.symm
        simp only [Bool.or_eq_true, Bool.and_eq_true] at hw
        rw [Bool.or_eq_false_iff, Bool.or_eq_false_iff] at h0
        obtain ⟨⟨a, b⟩, d⟩ := h0
        rcases hw with (⟨x, y⟩ | ⟨x, y⟩) | ⟨x, y⟩
        · rw [x, y, Bool.true_or, Bool.true_and] at a; cases a
        · rw [x, y] at b; cases b
        · rw [x, y] at d; cases d
    | false =>
      rw [hwk, if_neg (by simp)] at hq
      rw [hwk] at hw
      have hsoft : (c.bus.t.soft && i3) = false := by
        cases h : (c.bus.t.soft && i3) with
        | false => rfl
        | true => rw [h] at hw; simp at hw
      have hrx : (decide (0 < c.bus.c.rx.length) && i11) = false := by
        cases h : (decide (0 < c.bus.c.rx.length) && i11) with
        | false => rfl
        | true => rw [h] at hw; simp at hw
      have hu7 : (c.bus.t.up c.tick && i7) = false := by
        cases h : (c.bus.t.up c.tick && i7) with
        | false => rfl
        | true => rw [h] at hw; simp at hw
      have hR2 : (∀ d, d < n → heardAt c d = false) ↔ ((i11 = true → c.bus.c.came < c.bus.c.l.length → c.tick.toNat + n ≤ (c.bus.c.l.getD c.bus.c.came IArr.zero).tick.toNat) ∧ (i7 = true → c.tick.toNat + c.bus.t.off.toNat + n ≤ c.bus.t.mark.toNat)) := by
        constructor
        · intro h
          have hl := h (n - 1) (by omega)
          rw [hh _ (by omega), hrd _ (by omega), hup _ (by omega), hsoft, Bool.or_false] at hl
          simp only [Bool.or_eq_false_iff, Bool.and_eq_false_iff, decide_eq_false_iff_not] at hl
          refine ⟨fun a b => ?_, fun a => ?_⟩
          · rcases hl.1 with ⟨_, x | x⟩ | x
            · exact absurd b x
            · omega
            · rw [a] at x; cases x
          · rcases hl.2 with x | x
            · omega
            · rw [a] at x; cases x
        · rintro ⟨h1, h2⟩ d hd
          rw [hh _ hd, hrd _ (by omega), hup _ (by omega), hsoft, Bool.or_false]
          simp only [Bool.or_eq_false_iff, Bool.and_eq_false_iff, decide_eq_false_iff_not] at hrx ⊢
          refine ⟨?_, ?_⟩
          · cases i11 with
            | false => exact .inr rfl
            | true =>
              refine .inl ⟨?_, ?_⟩
              · rcases hrx with x | x
                · exact x
                · cases x
              · by_cases hb : c.bus.c.came < c.bus.c.l.length
                · have := h1 rfl hb
                  exact .inr (by omega)
                · exact .inl hb
          · cases i7 with
            | false => exact .inr rfl
            | true =>
              have := h2 rfl
              exact .inl (by omega)
      rw [hR2]
      have hltc : c.bus.c.next.1.toNat ≤ 18446744073709551615 := by have := c.bus.c.next.1.isLt; omega
      have hltm := c.bus.t.mark.isLt
      have hA : ((n : Int) ≤ (if decide (c.bus.c.came < c.bus.c.l.length) = true ∧ ¬ i11 = false then subI c.bus.c.next.1 c.tick else 18446744073709551615)) ↔ (i11 = true → c.bus.c.came < c.bus.c.l.length → c.tick.toNat + n ≤ (c.bus.c.l.getD c.bus.c.came IArr.zero).tick.toNat) := by
        by_cases hb : c.bus.c.came < c.bus.c.l.length
        · rw [hnx1 hb] at hsub
          cases i11 with
          | false =>
            rw [if_neg (by simp)]
            exact ⟨fun _ h => (by cases h), fun _ => by omega⟩
          | true =>
            rw [if_pos ⟨decide_eq_true hb, by simp⟩, hnx1 hb, hsub]
            constructor
            · intro h _ _; omega
            · intro h
              have := h rfl hb
              omega
        · rw [if_neg (by simp [hb])]
          exact ⟨fun _ _ h => absurd h hb, fun _ => by omega⟩
      rw [hq]
      generalize (if decide (c.bus.c.came < c.bus.c.l.length) = true ∧ ¬ i11 = false then subI c.bus.c.next.1 c.tick else 18446744073709551615) = a at *
      cases i7 with
      | false =>
        rw [if_pos rfl, hA]
        exact ⟨fun h => ⟨h, fun h => by cases h⟩, fun h => h.1⟩
      | true =>
        rw [if_neg (by simp), mI_v]
        have hu : c.bus.t.up c.tick = false := by simpa using hu7
        have hl := hleft hu
        rw [hup0] at hu
        have hu := of_decide_eq_false hu
        constructor
        · intro h
          exact ⟨hA.1 (by omega), fun _ => by omega⟩
        · rintro ⟨h1, h2⟩
          have := hA.2 h1
          have := h2 rfl
          omega
end Go.Ab
end
section
/- Contracts: the program's block, and the document's. -/
set_option linter.unusedSimpArgs false
set_option linter.unusedVariables false
set_option maxRecDepth 10000
namespace Go.Ab
open Go.Proofs
variable {G : Glo} {h : Heap}
theorem flat_snoc {α : Type} (f : α → List AV) (l : List α) (d : α) (k : Nat) (hk : k < l.length) : (l.take (k + 1)).flatMap f = (l.take k).flatMap f ++ f (l.getD k d) := by
  rw [List.take_add_one, List.flatMap_append]; simp [hk]
theorem Own_spec (b : IBk) (hw : b.wf) : Spec Tryz.prog G 9 [.agg b.cells] h (Is (bkP b) h) := by
  have hp := hw.hp
  have ho := hw.ho
  have he := hw.he
  obtain ⟨hs1, hs2, hs3⟩ := hw.hs
  refine Spec.weak (Q := fun r h' => ∃ c, h c = none ∧ r = .ptr c 0 ∧ h' = upd h c ⟨b.cells, 0⟩) ?_ ?_
  · refine Spec.walk C9ok rfl ?_
    simp only [push_cast, simprocAttr]
    intro b3 hb3
    refine lpc.rel [1, 3, 4] (fun m ρ h' => ∃ (k : Nat) (v : AV), m = b.ops.length - k ∧ k ≤ b.ops.length ∧ Own 6 (upd h b3 ⟨[.ro (wds b.pcs) b.pcs.length, v, .nils, .int .i64 b.last], 0⟩) v ((b.ops.take k).flatMap IOp.cells) k h' ∧
      ρ = [(1, .cp b.cells 0), (3, .ptr b3 0), (4, .int .i64 (k : Int))]) ⟨_, 0, .nils, rfl, by omega, .nil, rfl⟩ ?_
    rintro m _ h2 ⟨k, v, rfl, hk, hown, rfl⟩
    have hb2 := hown.get (upd_same _ _ _)
    simp only [push_cast, simprocAttr, hb2]
    refine ⟨fun hk2 => ⟨hk2, hk2, ?_⟩, fun hk2 => ?_⟩
    · refine Own.app hown (m := 1) (IOp.len _) (by omega) (by omega) fun v3 h3 ho3 => ?_
      have hb3' := ho3.get (upd_same _ _ _)
      have ho4 := Own.upd ho3 (b := b3) (x := ⟨[.ro (wds b.pcs) b.pcs.length, v3, .nils, .int .i64 b.last], 0⟩) (.inr ⟨_, upd_same _ _ _⟩)
      rw [upd_upd] at ho4
      simp (disch := omega) only [push_cast, simprocAttr, wrap_i64, toNat_ofInt64, Nat.min_eq_left, Int.toNat_of_nonneg, hb3', ho3.one]
      exact ⟨_, _, by omega, .refl _, k + 1, v3, rfl, by omega, by rw [flat_snoc _ _ IOp.zero _ hk2]; exact ho4, rfl⟩
    · obtain rfl : k = b.ops.length := by omega
      rw [List.take_length] at hown
      refine wkQ.cell hown (cs' := [.ro (wds b.pcs) b.pcs.length, Ab.ops b.ops, .nils, .int .i64 b.last]) rfl (fun i => ?_) ?_
      · match i with
        | 0 => exact .inl rfl
        | 1 => exact .inr ⟨rfl, rfl⟩
        | 2 => exact .inl rfl
        | 3 => exact .inl rfl
        | i + 4 => exact .inl rfl
      clear hb2 hown hk hk2 v h2
      simp only [push_cast, simprocAttr]
      refine lpc.rel [1, 3, 5] (fun m ρ h' => ∃ (k : Nat) (v : AV), m = b.exits.length - k ∧ k ≤ b.exits.length ∧ Own 5 (upd h b3 ⟨[.ro (wds b.pcs) b.pcs.length, Ab.ops b.ops, v, .int .i64 b.last], 0⟩) v ((b.exits.take k).flatMap IEx.cells) k h' ∧
        ρ = [(1, .cp b.cells 0), (3, .ptr b3 0), (5, .int .i64 (k : Int))]) ⟨_, 0, .nils, rfl, by omega, .nil, rfl⟩ ?_
      rintro m _ h2 ⟨k, v, rfl, hk, hown, rfl⟩
      have hb2 := hown.get (upd_same _ _ _)
      simp only [push_cast, simprocAttr]
      refine ⟨fun hk2 => ⟨hk2, hk2, fun b6 hb6 => ?_⟩, fun hk2 => ?_⟩
      · rw [era_none hb6]
        have hml := getD_map (n := k) hs3
        have hsn := flat_snoc IEx.cells b.exits IEx.zero k hk2
        generalize b.exits.getD k IEx.zero = e at hml hsn ⊢
        intro b7 hb7
        have hb73 : ¬ b3 = b7 := fun e => by rw [← e, hb2] at hb7; cases hb7
        have hb37 : ¬ b7 = b3 := fun e => hb73 e.symm
        have hh7 : h b7 = none := by
          have := hown.sub.none hb7
          rw [upd_ne hb37] at this
          exact this
        refine lpc.rel [1, 3, 5, 6, 7, 8] (fun m ρ h' => ∃ (j : Nat) (v7 : AV), m = e.map.length - j ∧ j ≤ e.map.length ∧ Own 2 (upd h2 b7 ⟨[.int .i64 e.done, .int .u32 (e.pc.toNat : Int), .int .i64 e.to, .int .i64 e.why, v7], 0⟩) v7 ((e.map.take j).flatMap IVl.cells) j h' ∧
          ρ = [(1, .cp b.cells 0), (3, .ptr b3 0), (5, .int .i64 (k : Int)), (6, .cp e.cells 0), (7, .ptr b7 0), (8, .int .i64 (j : Int))]) ⟨_, 0, .nils, rfl, by omega, .nil, rfl⟩ ?_
        rintro m _ g2 ⟨j, v7, rfl, hj, ho7, rfl⟩
        have hg7 := ho7.get (upd_same _ _ _)
        simp only [push_cast, simprocAttr, hg7]
        refine ⟨fun hj2 => ⟨hj2, hj2, ?_⟩, fun hj2 => ?_⟩
        · refine Own.app ho7 (m := 1) (IVl.len _) (by omega) (by omega) fun v8 h8 ho8 => ?_
          have hg8 := ho8.get (upd_same _ _ _)
          have ho9 := Own.upd ho8 (b := b7) (x := ⟨[.int .i64 e.done, .int .u32 (e.pc.toNat : Int), .int .i64 e.to, .int .i64 e.why, v8], 0⟩) (.inr ⟨_, upd_same _ _ _⟩)
          rw [upd_upd] at ho9
          simp (disch := omega) only [push_cast, simprocAttr, wrap_i64, toNat_ofInt64, Nat.min_eq_left, Int.toNat_of_nonneg, hg8, ho8.one]
          exact ⟨_, _, by omega, .refl _, j + 1, v8, rfl, by omega, by rw [flat_snoc _ _ IVl.zero _ hj2]; exact ho9, rfl⟩
        · obtain rfl : j = e.map.length := by omega
          rw [List.take_length] at ho7
          refine wkQ.cell ho7 (cs' := e.cells) rfl (fun i => ?_) ?_
          · match i with
            | 0 => exact .inl rfl
            | 1 => exact .inl rfl
            | 2 => exact .inl rfl
            | 3 => exact .inl rfl
            | 4 => exact .inr ⟨rfl, rfl⟩
            | i + 5 => exact .inl rfl
          clear hg7 ho7 hj hj2 v7 g2
          have ho' := Own.upd hown (b := b7) (x := ⟨e.cells, 0⟩) (.inl hb7)
          have hb2' := ho'.get (b := b3) (by rw [upd_ne hb73]; exact upd_same _ _ _)
          simp only [push_cast, simprocAttr, hb2', upd_at, hb73, hb2]
          refine Own.app ho' (m := 1) (IEx.len _) (by omega) (by omega) fun v4 h4 ho4 => ?_
          have hg3 := ho4.get (b := b3) (by rw [upd_ne hb73]; exact upd_same _ _ _)
          have hg7 := ho4.get (b := b7) (upd_same _ _ _)
          simp (disch := omega) only [push_cast, simprocAttr, wrap_i64, toNat_ofInt64, Nat.min_eq_left, Int.toNat_of_nonneg, hg3, hg7, ho4.one]
          have ho5 := Own.upd ho4 (b := b3) (x := ⟨[.ro (wds b.pcs) b.pcs.length, Ab.ops b.ops, v4, .int .i64 b.last], 0⟩) (.inr ⟨_, by rw [upd_ne hb73]; exact upd_same _ _ _⟩)
          rw [upd_comm hb37, upd_upd] at ho5
          obtain ⟨h6, hs6, ho6⟩ := Own.drop ho5 (by rw [upd_ne hb37]; exact hh7)
          exact ⟨_, h6, by omega, hs6, k + 1, v4, rfl, by omega, by rw [hsn]; exact ho6, rfl⟩
      · obtain rfl : k = b.exits.length := by omega
        rw [List.take_length] at hown
        refine wkQ.cell hown (cs' := b.cells) rfl (fun i => ?_) ?_
        · match i with
          | 0 => exact .inl rfl
          | 1 => exact .inl rfl
          | 2 => exact .inr ⟨rfl, rfl⟩
          | 3 => exact .inl rfl
          | i + 4 => exact .inl rfl
        simp only [push_cast, simprocAttr]
        exact ⟨b3, hb3, rfl, rfl⟩
  · rintro _ _ ⟨c, hc, rfl, rfl⟩
    exact ⟨_, _, ⟨rfl, rfl⟩, Le.box hc⟩
end Go.Ab
end
section
/- The laws of eval: what is right of what is behind a block. -/
set_option linter.unusedSimpArgs false
set_option linter.unusedVariables false
set_option maxRecDepth 10000
namespace Go.Ab
open Go.Proofs
variable {G : Glo} {h : Heap}
theorem runN_mem (regs : List (BitVec 32)) : ∀ (l : List IOp) (vals : List (BitVec 32)) (M : IRam), (∀ o ∈ l, o.code ≠ 5) → (runN regs l vals M).2.2 = M := by
  intro l
  induction l with
  | nil => intro vals M _; rfl
  | cons o r ih =>
    intro vals M hc
    have h5 := hc o (by simp)
    have hs : (stepN regs o vals M).2.2 = M := by
      unfold stepN
      (repeat' split) <;> first | rfl | (rename_i e; exact absurd e h5) | skip
    simp only [runN]
    split
    · rw [ih _ _ (fun o' ho => hc o' (by simp [ho])), hs]
    · exact hs
theorem runN_exit {b : IBk} (hr : b.right = true) (regs : List (BitVec 32)) : ∀ (n k : Nat) (vals : List (BitVec 32)) (M : IRam), k + n = b.ops.length → ∀ x, (runN regs (b.ops.drop k) vals M).1 = some x → 0 ≤ x ∧ x < b.exits.length := by
  intro n
  induction n with
  | zero =>
    intro k vals M hk x hx
    rw [List.drop_of_length_le (by omega)] at hx
    cases hx
  | succ n ih =>
    intro k vals M hk x hx
    have hk2 : k < b.ops.length := by omega
    have hdr : b.ops.drop k = b.op k :: b.ops.drop (k + 1) := by
      rw [List.drop_eq_getElem_cons hk2]; congr 1; simp [IBk.op, hk2]
    rw [hdr] at hx
    simp only [runN] at hx
    split at hx
    · exact ih (k + 1) _ _ (by omega) x hx
    · rename_i hne
      cases hx
      have := exit_ok (step_exit hr k hk2 regs vals M hne)
      exact this.1
theorem exitOf_ok {b : IBk} (hr : b.right = true) (regs : List (BitVec 32)) (M : IRam) : 0 ≤ b.exitOf regs M ∧ b.exitOf regs M < b.exits.length := by
  have hlast : b.exit b.last b.ops.length = true := by
    simp only [IBk.right, Bool.and_eq_true] at hr
    exact hr.2
  unfold IBk.exitOf
  cases hx : (runN regs b.ops [] M).1 with
  | none => exact (exit_ok hlast).1
  | some x => exact runN_exit hr regs b.ops.length 0 [] M (by omega) x hx
theorem foldR_no (vals : List (BitVec 32)) (m : List IVl) (regs : List (BitVec 32)) (i : Nat) (hp : ∀ v ∈ m, 0 ≤ v.reg) (hn : ∀ v ∈ m, v.reg ≠ i) : (foldR vals m regs).getD i 0#32 = regs.getD i 0#32 := by
  induction m generalizing regs with
  | nil => rfl
  | cons v r ih =>
    have : foldR vals (v :: r) regs = foldR vals r (regs.set v.reg.toNat (lv vals v.val)) := rfl
    rw [this, ih _ (fun u hu => hp u (by simp [hu])) (fun u hu => hn u (by simp [hu]))]
    have h1 := hp v (by simp)
    have h2 := hn v (by simp)
    simp only [List.getD_eq_getElem?_getD, List.getElem?_set]
    rw [if_neg (by omega)]
theorem check_right {b : IBk} (hc : b.check = 0) : b.right = true := by
  unfold IBk.check at hc
  split at hc
  · cases hc
  · split at hc
    · assumption
    · cases hc
theorem map_reg {b : IBk} (hr : b.right = true) {n : Nat} (hn : n < b.exits.length) : ∀ v ∈ (b.ex n).map, 0 ≤ v.reg := by
  intro v hv
  obtain ⟨i, hi, rfl⟩ := List.getElem_of_mem hv
  have := leaves_ok (right_ex hr n hn) i hi
  simp only [IEx.vl, List.getD_eq_getElem?_getD, List.getElem?_eq_getElem hi, Option.getD_some] at this
  omega
theorem oc_reg {regs : List (BitVec 32)} (hl : regs.length = 32) {pc : BitVec 32} {done why exit : Int} (i : Nat) (hi : i < 32) : (outC regs pc done why exit)[i]? = some (.int .u32 ((regs.getD i 0#32).toNat : Int)) := by
  rw [outC, List.getElem?_append_left (by simp [wds, hl]; omega), wds_get, if_pos (by omega)]
theorem oc_at {regs : List (BitVec 32)} (hl : regs.length = 32) {pc : BitVec 32} {done why exit : Int} : (outC regs pc done why exit)[32]? = some (.int .u32 (pc.toNat : Int)) ∧ (outC regs pc done why exit)[33]? = some (.int .i64 done) ∧ (outC regs pc done why exit)[34]? = some (.int .i64 why) ∧ (outC regs pc done why exit)[35]? = some (.int .i64 exit) := by
  have hw : (wds regs).length = 32 := by simp [wds, hl]
  refine ⟨?_, ?_, ?_, ?_⟩ <;> (rw [outC, List.getElem?_append_right (by omega), hw]; rfl)
end Go.Ab
end
