/- A block, done. -/
import Derived.Test.YtjaknpophnolmaaE7
set_option linter.unusedSimpArgs false
set_option linter.unusedVariables false
set_option maxRecDepth 10000
namespace Go.Ab
open Go.Proofs
variable {G : Glo} {h : Heap}
/-- The operations from one on, done: the exit that is taken (none: the last one), the values, and the memory. -/
def runN (regs : List (BitVec 32)) : List IOp → List (BitVec 32) → IRam → Option Int × List (BitVec 32) × IRam
  | [], vals, M => (none, vals, M)
  | o :: r, vals, M =>
    let s := stepN regs o vals M
    if s.2.1 = -1 then runN regs r (vals ++ [s.1]) s.2.2 else (some s.2.1, vals ++ [s.1], s.2.2)
def IBk.exitOf (b : IBk) (regs : List (BitVec 32)) (M : IRam) : Int := (runN regs b.ops [] M).1.getD b.last
/-- A block's end. -/
def IBk.outOf (b : IBk) (regs : List (BitVec 32)) (M : IRam) : List AV :=
  let n := b.exitOf regs M
  let e := b.ex n.toNat
  let vals := (runN regs b.ops [] M).2.1
  outC (leaveR e regs vals) (leaveP e vals) e.done e.why n
def IBk.ramOf (b : IBk) (regs : List (BitVec 32)) (M : IRam) : IRam := (runN regs b.ops [] M).2.2
theorem val_ok {b : IBk} {n ahead : Int} (hv : b.val n ahead = true) : 0 ≤ n ∧ n < ahead ∧ n < b.ops.length := by
  simp only [IBk.val, Bool.and_eq_true, decide_eq_true_eq] at hv
  omega
theorem exit_ok {b : IBk} {n ahead : Int} (hv : b.exit n ahead = true) : (0 ≤ n ∧ n < b.exits.length) ∧ ((b.ex n.toNat).to = -1 ∨ b.val (b.ex n.toNat).to ahead = true) ∧ ∀ i, i < (b.ex n.toNat).map.length → b.val ((b.ex n.toNat).vl i).val ahead = true := by
  simp only [IBk.exit, Bool.and_eq_true, Bool.or_eq_true, decide_eq_true_eq] at hv
  exact ⟨hv.1.1, hv.1.2, fun i hi => allN_get hv.2 i hi⟩
theorem right_ops {b : IBk} (hr : b.right = true) (k : Nat) (hk : k < b.ops.length) : b.opR k = true := by
  simp only [IBk.right, Bool.and_eq_true] at hr
  exact allN_get hr.1.1.1.1 k hk
theorem right_ex {b : IBk} (hr : b.right = true) (k : Nat) (hk : k < b.exits.length) : b.leaves k = true := by
  simp only [IBk.right, Bool.and_eq_true] at hr
  exact allN_get hr.1.1.1.2 k hk
theorem leaves_ok {b : IBk} {k : Nat} (hl : b.leaves k = true) (i : Nat) (hi : i < (b.ex k).map.length) : 1 ≤ ((b.ex k).vl i).reg ∧ ((b.ex k).vl i).reg ≤ 31 := by
  simp only [IBk.leaves, Bool.and_eq_true, decide_eq_true_eq] at hl
  have := allN_get hl.2 i hi
  simp only [Bool.and_eq_true, decide_eq_true_eq] at this
  exact ⟨this.1.1, this.1.2⟩
/-- An exit that an operation of a right block names may be taken behind it. -/
theorem okEx_of {b : IBk} (hr : b.right = true) {n ahead : Int} {m : Nat} (hx : b.exit n ahead = true) (hm : ahead ≤ m) : 0 ≤ n ∧ n < b.exits.length ∧ okEx (b.ex n.toNat) m := by
  obtain ⟨⟨h1, h2⟩, h3, h4⟩ := exit_ok hx
  refine ⟨h1, h2, fun i hi => ?_, ?_⟩
  · have hv := val_ok (h4 i hi)
    have hl := leaves_ok (right_ex hr n.toNat (by omega)) i hi
    exact ⟨⟨hv.1, by omega⟩, by omega, hl.2⟩
  · rcases h3 with h3 | h3
    · exact .inl h3
    · have hv := val_ok h3
      exact .inr ⟨hv.1, by omega⟩
theorem op_ok {b : IBk} (hr : b.right = true) (k : Nat) (hk : k < b.ops.length) : okOp (b.op k) k ∧ ((b.op k).code = 4 ∨ (b.op k).code = 5 ∨ (b.op k).code = 6 → b.exit (b.op k).x k = true) ∧ ((b.op k).code = 5 → b.exit (b.op k).y k = true) := by
  have h := right_ops hr k hk
  rw [opR_eq b k (o := b.op k) rfl] at h
  generalize b.op k = o at h ⊢
  unfold okOp
  split at h
  · rename_i hc; simp only [Bool.and_eq_true, decide_eq_true_eq] at h; simp [hc]; omega
  · split at h
    · rename_i _ hc; simp [hc]
    · split at h
      · rename_i _ _ hc
        simp only [Bool.and_eq_true, decide_eq_true_eq] at h
        have v1 := val_ok h.1.2
        have v2 := val_ok h.2
        simp [hc, h.1.1.1.1]; omega
      · split at h
        · rename_i _ _ _ hc
          simp only [Bool.and_eq_true, decide_eq_true_eq] at h
          have v1 := val_ok h.1.2
          simp [hc, h.2]; omega
        · split at h
          · rename_i _ _ _ _ hc
            simp only [Bool.and_eq_true, decide_eq_true_eq] at h
            have v1 := val_ok h.1.1.1.2
            have v2 := val_ok h.1.1.2
            simp [hc, h.1.2, h.2]; omega
          · split at h
            · rename_i _ _ _ _ _ hc
              simp only [Bool.and_eq_true, decide_eq_true_eq] at h
              have v1 := val_ok h.1.1.2
              have v2 := val_ok h.1.2
              simp [hc, h.2]; omega
            · cases h
/-- The exit that an operation of a right block takes. -/
theorem step_exit {b : IBk} (hr : b.right = true) (k : Nat) (hk : k < b.ops.length) (regs vals : List (BitVec 32)) (M : IRam) (hx : (stepN regs (b.op k) vals M).2.1 ≠ -1) : b.exit (stepN regs (b.op k) vals M).2.1 k = true := by
  obtain ⟨_, h1, h2⟩ := op_ok hr k hk
  generalize b.op k = o at h1 h2 hx ⊢
  unfold stepN at hx ⊢
  split at hx
  · exact absurd rfl hx
  · rename_i c1
    rw [if_neg c1]
    split at hx
    · rename_i c4
      rw [if_pos c4]
      split at hx
      · exact absurd rfl hx
      · rename_i hE; rw [if_neg hE]; exact h1 (.inl c4)
    · rename_i c4
      rw [if_neg c4]
      split at hx
      · rename_i c5
        rw [if_pos c5]
        unfold storeX at hx ⊢
        split at hx
        · rename_i hE
          rw [if_pos hE]
          simp only at hx ⊢
          split at hx
          · rename_i hh; rw [if_pos hh]; exact h2 c5
          · exact absurd rfl hx
        · rename_i hE; rw [if_neg hE]; exact h1 (.inr (.inl c5))
      · rename_i c5
        rw [if_neg c5]
        split at hx
        · rename_i c6
          rw [if_pos c6]
          simp only at hx ⊢
          split at hx
          · exact absurd rfl hx
          · rename_i ht; rw [if_neg ht]; exact h1 (.inr (.inr c6))
        · rename_i c6
          split at hx <;> exact absurd rfl hx
def DoTo (h : Heap) (l : Pl) (M : IRam) (v : AV) (r : AV) (h' : Heap) : Prop := r = v ∧ RamAt h' l M ∧ ∀ c, ¬ l.has c → h' c = h c
theorem ram_cut {l : Pl} {M : IRam} {H2 h : Heap} (hr2 : RamAt H2 l M) (hold : ∀ c, h c ≠ none → ¬ l.has c → H2 c = h c) : ∃ h1, Sub h1 H2 ∧ RamAt h1 l M ∧ ∀ c, ¬ l.has c → h1 c = h c := by
  classical
  refine ⟨fun c => if l.has c then H2 c else h c, fun c x hx => ?_, ⟨hr2.ok, hr2.wf, ?_, ?_, ?_, ?_⟩, fun c hc => if_neg hc⟩
  · simp only at hx
    split at hx
    · exact hx
    · rename_i hc; rw [hold c (by rw [hx]; simp) hc]; exact hx
  · show (if _ then _ else _) = _
    rw [if_pos (.inl rfl)]; exact hr2.hp
  · show (if _ then _ else _) = _
    rw [if_pos (.inr (.inl rfl))]; exact hr2.hb
  · show (if _ then _ else _) = _
    rw [if_pos (.inr (.inr (.inl rfl)))]; exact hr2.hw
  · show (if _ then _ else _) = _
    rw [if_pos (.inr (.inr (.inr rfl)))]; exact hr2.hg
theorem fc_bld {b : IBk} {regs : List (BitVec 32)} (hl : regs.length = 32) (p : Nat) : (splice [bkP b, .int .u32 0, .int .u32 0, .int .u32 0, .int .u32 0, .int .u32 0, .int .u32 0, .int .u32 0, .int .u32 0, .int .u32 0, .int .u32 0, .int .u32 0, .int .u32 0, .int .u32 0, .int .u32 0, .int .u32 0, .int .u32 0, .int .u32 0, .int .u32 0, .int .u32 0, .int .u32 0, .int .u32 0, .int .u32 0, .int .u32 0, .int .u32 0, .int .u32 0, .int .u32 0, .int .u32 0, .int .u32 0, .int .u32 0, .int .u32 0, .int .u32 0, .int .u32 0, .nilp, .nils] 1 (wds regs)).set 33 (.ptr p 0) = fcells b regs p .nils := by
  have hw : (wds regs).length = 32 := by simp [wds, hl]
  rw [splice_ne (by omega), hw]
  simp only [List.take_succ_cons, List.take_zero, List.drop_succ_cons, List.drop_zero, Nat.reduceAdd]
  rw [List.set_append_right _ _ (by simp [hw])]
  simp [hw, fcells]
theorem fc_bl {b : IBk} {regs : List (BitVec 32)} (hl : regs.length = 32) : (splice [bkP b, .int .u32 0, .int .u32 0, .int .u32 0, .int .u32 0, .int .u32 0, .int .u32 0, .int .u32 0, .int .u32 0, .int .u32 0, .int .u32 0, .int .u32 0, .int .u32 0, .int .u32 0, .int .u32 0, .int .u32 0, .int .u32 0, .int .u32 0, .int .u32 0, .int .u32 0, .int .u32 0, .int .u32 0, .int .u32 0, .int .u32 0, .int .u32 0, .int .u32 0, .int .u32 0, .int .u32 0, .int .u32 0, .int .u32 0, .int .u32 0, .int .u32 0, .int .u32 0, .nilp, .nils] 1 (wds regs)).length = 35 := by
  rw [splice_length (by simp [wds, hl])]; rfl
section
variable {l : Pl} {M : IRam} {b : IBk} {regs : List (BitVec 32)}
theorem Do_right (hr : RamAt h l M) (hw : b.wf) (hc : b.check = 0) (hlen : regs.length = 32) (hm : ∀ e ∈ b.exits, e.map.length ≤ 1000) :
    Spec Try.prog G 14 [bkP b, .agg (wds regs), .ptr l.p 0] h (DoTo h l (b.ramOf regs M) (.tup [.agg (b.outOf regs M), .int .i64 0])) := by
  have hC := Check_spec (G := G) (h := h) b hw
  refine Spec.drop ?_
  have hwl : (wds regs).length = 32 := by simp [wds, hlen]
  have hpa : partOf (wds regs) 0 (some 32) = some (.agg (wds regs)) := partOf_all hwl
  refine Spec.walk C14ok rfl ?_
  simp only [push_cast, simprocAttr]
  intro c6 hc6
  obtain ⟨H6, hH6⟩ : ∃ H6, upd h c6 ⟨[.int .u32 0, .int .u32 0, .int .u32 0, .int .u32 0, .int .u32 0, .int .u32 0, .int .u32 0, .int .u32 0, .int .u32 0, .int .u32 0, .int .u32 0, .int .u32 0, .int .u32 0, .int .u32 0, .int .u32 0, .int .u32 0, .int .u32 0, .int .u32 0, .int .u32 0, .int .u32 0, .int .u32 0, .int .u32 0, .int .u32 0, .int .u32 0, .int .u32 0, .int .u32 0, .int .u32 0, .int .u32 0, .int .u32 0, .int .u32 0, .int .u32 0, .int .u32 0, .int .u32 0, .int .i64 0, .int .i64 0, .int .i64 0], 0⟩ = H6 := ⟨_, rfl⟩
  have n6 := hr.not hc6
  have r6 : RamAt H6 l M := hH6 ▸ hr.upd n6
  obtain ⟨Z, hZ, z6⟩ : ∃ Z : List AV, Z.length = 36 ∧ H6 c6 = some ⟨Z, 0⟩ := ⟨_, rfl, by rw [← hH6, upd_same]⟩
  have s6 : ∀ c, c ≠ c6 → H6 c = h c := fun c hc => by rw [← hH6, upd_ne hc]
  rw [hH6]
  clear hH6
  refine (Check_spec (G := G) (h := H6) b hw).to ?_
  rw [hc]
  have hb1 := fc_bld (b := b) hlen l.p
  have hb2 := fc_bl (b := b) hlen
  simp only [push_cast, simprocAttr, hpa, hwl, hb1, hb2, hlen]
  intro pf hpf
  have nl := r6.not hpf
  have n6f : c6 ≠ pf := fun e => by rw [← e, z6] at hpf; cases hpf
  have hF0 : FAt (upd H6 pf ⟨fcells b regs l.p .nils, 0⟩) H6 l M pf b regs .nils [] :=
    ⟨r6.upd nl, nl, hpf, upd_same _ _ _, .inl ⟨rfl, rfl⟩, fun c hc _ => upd_ne fun e => hc (e ▸ hpf), hlen⟩
  have hright : b.right = true := by
    unfold IBk.check at hc
    split at hc
    · cases hc
    · split at hc
      · assumption
      · cases hc
  have hol : b.ops.length ≤ 512 := by
    unfold IBk.check IBk.long at hc
    split at hc
    · cases hc
    · rename_i hl; simp only [Bool.or_eq_true, decide_eq_true_eq] at hl; omega
  have hmx : ∀ n, (b.ex n).map.length ≤ 1000 := fun n => getD_map hm
  have fin : ∀ (H2 : Heap) (M2 : IRam) (vv : AV) (vals : List (BitVec 32)) (n : Int), FAt H2 H6 l M2 pf b regs vv vals → b.ramOf regs M = M2 → b.outOf regs M = outC (leaveR (b.ex n.toNat) regs vals) (leaveP (b.ex n.toNat) vals) (b.ex n.toNat).done (b.ex n.toNat).why n →
      H2 c6 = some ⟨Z, 0⟩ ∧ (outC (leaveR (b.ex n.toNat) regs vals) (leaveP (b.ex n.toNat) vals) (b.ex n.toNat).done (b.ex n.toNat).why n).length = 36 ∧ splice Z 0 (outC (leaveR (b.ex n.toNat) regs vals) (leaveP (b.ex n.toNat) vals) (b.ex n.toNat).done (b.ex n.toNat).why n) = outC (leaveR (b.ex n.toNat) regs vals) (leaveP (b.ex n.toNat) vals) (b.ex n.toNat).done (b.ex n.toNat).why n ∧
      partOf (outC (leaveR (b.ex n.toNat) regs vals) (leaveP (b.ex n.toNat) vals) (b.ex n.toNat).done (b.ex n.toNat).why n) 0 (some 36) = some (.agg (b.outOf regs M)) ∧
      ∀ X, ∃ h1, Sub h1 (upd H2 c6 X) ∧ DoTo h l (b.ramOf regs M) (.tup [.agg (b.outOf regs M), .int .i64 0]) (.tup [.agg (b.outOf regs M), .int .i64 0]) h1 := by
    intro H2 M2 vv vals n hF hM hO
    have hl2 : (leaveR (b.ex n.toNat) regs vals).length = 32 := by rw [leaveR, foldR_len, hlen]
    have hc6' : H2 c6 = some ⟨Z, 0⟩ := (hF.old c6 (by rw [z6]; simp) n6).trans z6
    refine ⟨hc6', oc_len hl2, oc_put hl2 Z hZ, by rw [oc_all hl2, hO], fun X => ?_⟩
    obtain ⟨h1, k1, k2, k3⟩ := ram_cut (h := h) (hF.ram.upd (X := X) n6) (fun c hcn hl => by
      have d6 : c ≠ c6 := fun e => hcn (e ▸ hc6)
      rw [upd_ne d6, hF.old c (by rw [s6 c d6]; exact hcn) hl, s6 c d6])
    exact ⟨h1, k1, rfl, hM ▸ k2, k3⟩
  refine lpc.rel [0, 6, 9, 30, 31, 32] (fun m ρ h' => ∃ k vv vals M1, m = b.ops.length - k ∧ k ≤ b.ops.length ∧ FAt h' H6 l M1 pf b regs vv vals ∧ vals.length = k ∧ runN regs b.ops [] M = runN regs (b.ops.drop k) vals M1 ∧
    ρ = [(0, bkP b), (6, .ptr c6 0), (9, .ptr pf 0), (30, ops b.ops), (31, .int .i64 (b.ops.length : Int)), (32, .int .i64 (k : Int))]) ⟨_, 0, .nils, [], M, rfl, by omega, hF0, rfl, rfl, rfl⟩ ?_
  rintro m _ H1 ⟨k, vv, vals, M1, rfl, hk, hF, hvl, hrun, rfl⟩
  clear hb1 hb2
  simp only [push_cast, simprocAttr]
  refine ⟨fun hk2 => ?_, fun hk2 => ?_⟩
  · have hop : b.ops.getD k IOp.zero = b.op k := rfl
    refine ⟨hk2, hk2, fun c11 hc11 => ?_⟩
    rw [era_none hc11, hop]
    obtain ⟨ok1, _, _⟩ := op_ok hright k hk2
    refine (op_spec' hF (b.op k) (by rw [hvl]; exact ok1) (by omega)).mono ?_
    rintro _ H2 ⟨rfl, vv2, hF2⟩
    have hdr : b.ops.drop k = b.op k :: b.ops.drop (k + 1) := by
      rw [List.drop_eq_getElem_cons hk2]; congr 1; simp [IBk.op, hk2]
    rw [hdr] at hrun
    have hsx := step_exit hright k hk2 regs vals M1
    simp only [runN] at hrun
    generalize stepN regs (b.op k) vals M1 = S at hF2 hrun hsx ⊢
    obtain ⟨w, x, M2⟩ := S
    by_cases hx : x = -1
    · subst hx
      rw [if_pos rfl] at hrun
      simp (disch := omega) only [push_cast, simprocAttr, wrap_i64, toNat_ofInt64, Nat.min_eq_left, Int.toNat_of_nonneg]
      exact ⟨_, _, by omega, .refl _, k + 1, vv2, vals ++ [w], M2, rfl, by omega, hF2, by simp [hvl], hrun, rfl⟩
    · rw [if_neg hx] at hrun
      have hx' : (x != -1) = true := by simp [hx]
      obtain ⟨x1, x2, x3⟩ := okEx_of hright (hsx hx) (m := (vals ++ [w]).length) (by simp; omega)
      have hM : b.ramOf regs M = M2 := by rw [IBk.ramOf, hrun]
      have hO : b.outOf regs M = outC (leaveR (b.ex x.toNat) regs (vals ++ [w])) (leaveP (b.ex x.toNat) (vals ++ [w])) (b.ex x.toNat).done (b.ex x.toNat).why x := by
        simp only [IBk.outOf, IBk.exitOf, hrun, Option.getD_some]
      obtain ⟨f1, f2, f3, f4, f5⟩ := fin H2 M2 vv2 (vals ++ [w]) x hF2 hM hO
      simp only [push_cast, simprocAttr, hx]
      refine (leave_spec hF2 x x1 x2 (hmx _) x3).to ?_
      simp only [push_cast, simprocAttr, f1, f2, f3, f4, hZ]
      exact f5 _
  · obtain rfl : k = b.ops.length := by omega
    rw [List.drop_of_length_le (Nat.le_refl _), runN] at hrun
    have hM : b.ramOf regs M = M1 := by rw [IBk.ramOf, hrun]
    have hO : b.outOf regs M = outC (leaveR (b.ex b.last.toNat) regs vals) (leaveP (b.ex b.last.toNat) vals) (b.ex b.last.toNat).done (b.ex b.last.toNat).why b.last := by
      simp only [IBk.outOf, IBk.exitOf, hrun, Option.getD_none]
    have hlast : b.exit b.last b.ops.length = true := by
      simp only [IBk.right, Bool.and_eq_true] at hright
      exact hright.2
    obtain ⟨x1, x2, x3⟩ := okEx_of hright hlast (m := vals.length) (by omega)
    obtain ⟨f1, f2, f3, f4, f5⟩ := fin H1 M1 vv vals b.last hF hM hO
    refine (leave_spec hF b.last x1 x2 (hmx _) x3).to ?_
    simp only [push_cast, simprocAttr, f1, f2, f3, f4, hZ]
    exact f5 _
/-- A block that is not right; no memory. -/
theorem Do_wrong (v : AV) (hw : b.wf) (hc : b.check ≠ 0) (hlen : regs.length = 32) : Spec Try.prog G 14 [bkP b, .agg (wds regs), v] h (Is (.tup [.agg (outC (List.replicate 32 0) 0#32 0 0 0), .int .i64 b.check]) h) := by
  have hc' : (b.check != 0) = true := by simp [hc]
  refine Spec.is C14ok rfl ?_
  simp only [push_cast, simprocAttr]
  intro c6 hc6
  refine (Check_spec (G := G) b hw).to ?_
  simp only [push_cast, simprocAttr, hc']
  exact ⟨rfl, (Sub.refl h).alloc hc6⟩
theorem Do_nil (hw : b.wf) (hc : b.check = 0) (hlen : regs.length = 32) : Spec Try.prog G 14 [bkP b, .agg (wds regs), .nilp] h (Is (.tup [.agg (outC (List.replicate 32 0) 0#32 0 0 0), .int .i64 2]) h) := by
  refine Spec.is C14ok rfl ?_
  simp only [push_cast, simprocAttr]
  intro c6 hc6
  refine (Check_spec (G := G) b hw).to ?_
  rw [hc]
  simp only [push_cast, simprocAttr]
  exact ⟨rfl, (Sub.refl h).alloc hc6⟩
end
end Go.Ab
