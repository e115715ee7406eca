/- The law of what is behind a block, done. -/
import Derived.Test.YtjaknpophnolmaaE19
import Derived.Test.YtjaknpophnolmaaE15
set_option linter.unusedSimpArgs false
set_option linter.unusedVariables false
set_option maxRecDepth 10000
namespace Go.Ab
open Go.Proofs
variable {G : Glo} {h : Heap}
theorem oT_reg {regs : List (BitVec 32)} (hl : regs.length = 32) {pc : BitVec 32} {d y x : Int} {T : List AV} : partOf (oT regs pc d y x T) 0 (some 32) = some (.agg (wds regs)) ∧ (oT regs pc d y x T)[32]? = some (.int .u32 (pc.toNat : Int)) ∧ (oT regs pc d y x T)[33]? = some (.int .i64 d) ∧ (oT regs pc d y x T)[34]? = some (.int .i64 y) ∧ (oT regs pc d y x T)[35]? = some (.int .i64 x) := by
  have hw : (wds regs).length = 32 := by simp [wds, hl]
  have ho := oc_len (pc := pc) (done := d) (why := y) (exit := x) hl
  obtain ⟨o1, o2, o3, o4⟩ := oc_at (pc := pc) (done := d) (why := y) (exit := x) hl
  refine ⟨?_, ?_, ?_, ?_, ?_⟩
  · simp only [partOf]
    rw [if_pos (by simp [oT, ho]; omega), oT, outC, List.drop_zero, List.append_assoc, List.take_append_of_le_length (by omega), List.take_of_length_le (by omega)]
  all_goals rw [oT, List.getElem?_append_left (by rw [ho]; omega)]; assumption
theorem oT_ram {regs : List (BitVec 32)} (hl : regs.length = 32) {pc : BitVec 32} {d y x : Int} {M : IRam} : (oT regs pc d y x M.cells)[36]? = some (byt M.b) ∧ (oT regs pc d y x M.cells)[37]? = some (.ro (bos M.w) M.w.length) := by
  have ho := oc_len (pc := pc) (done := d) (why := y) (exit := x) hl
  refine ⟨?_, ?_⟩ <;> (rw [oT, List.getElem?_append_right (by omega), ho]; rfl)
theorem runN_wf (regs : List (BitVec 32)) : ∀ (l : List IOp) (vals : List (BitVec 32)) (M : IRam), M.wf → (runN regs l vals M).2.2.wf := by
  intro l
  induction l with
  | nil => intro vals M hM; exact hM
  | cons o r ih =>
    intro vals M hM
    have hs := step_wf hM regs o vals
    simp only [runN]
    split
    · exact ih _ _ hs
    · exact hs
theorem wdM_wf {w : IWd} {n : Nat} (hn : rightN n = true) (hb : w.b.length ≤ n) : (wdM w n 16).wf := by
  simp only [rightN, Bool.and_eq_true, decide_eq_true_eq] at hn
  unfold IRam.wf
  simp [wdM, wdB, wdW_len]
  omega
section
variable {b : IBk} {w : IWd} {n : Nat} {l : Pl} {M' : IRam} {Ro : List (BitVec 32)} {pc : BitVec 32} {d y x : Int}
/-- Behind the document's block: what is compared. -/
theorem does_tail3 (hM' : M'.wf) (hRo : Ro.length = 32) {c6 c11 : Nat} {H : Heap} (hr : RamAt H l M') (h6 : H c6 = some ⟨outC Ro pc d y x, 0⟩) (h11 : H c11 = some ⟨oT Ro pc d y x M'.cells, 0⟩) (hs : Sub h H) :
    wpc Try.prog G Try.f5.ntmps C5_34 (retQ C5r (IsS (.bool true) h)) [(5, .ptr l.p 0), (6, .ptr c6 0), (7, .int .i64 0), (9, .int .i64 2), (11, .ptr c11 0)] H := by
  obtain ⟨o0, o32, o33, o34, o35⟩ := oT_reg (pc := pc) (d := d) (y := y) (x := x) (T := M'.cells) hRo
  obtain ⟨o36, o37⟩ := oT_ram (pc := pc) (d := d) (y := y) (x := x) (M := M') hRo
  have hwf := hM'
  unfold IRam.wf at hwf
  have hpl := oc_len (regs := Ro) (pc := pc) (done := d) (why := y) (exit := x) hRo
  have hpa := oc_all (regs := Ro) (pc := pc) (done := d) (why := y) (exit := x) hRo
  simp only [push_cast, simprocAttr, h6, h11, o36, o37]
  refine lpc.rel [5, 6, 7, 9, 11, 12] (fun m ρ h' => ∃ k : Nat, m = M'.w.length - k ∧ k ≤ M'.w.length ∧ H = h' ∧
    ρ = [(5, .ptr l.p 0), (6, .ptr c6 0), (7, .int .i64 0), (9, .int .i64 2), (11, .ptr c11 0), (12, .int .i64 (k : Int))]) ⟨_, 0, rfl, by omega, rfl, rfl⟩ ?_
  rintro m _ _ ⟨k, rfl, hk, rfl, rfl⟩
  simp only [push_cast, simprocAttr, h6, h11, o36, o37]
  refine ⟨fun hk2 => ?_, fun hk2 => ?_⟩
  · have hW := Watched_spec (G := G) hr k
    have e0 : (decide (0 ≤ (k : Int)) && decide ((k : Int) < (M'.b.length / 64 : Nat)) && M'.w.getD (k : Int).toNat false) = M'.w.getD k false := by
      have h1 : decide (0 ≤ (k : Int)) = true := by simp
      have h2 : decide ((k : Int) < (M'.b.length / 64 : Nat)) = true := decide_eq_true (by omega)
      rw [h1, h2]; rfl
    rw [e0] at hW
    refine ⟨hk2, hk2, hW.to ?_⟩
    cases hb : M'.w.getD k false <;>
    · simp (disch := omega) only [push_cast, simprocAttr, wrap_i64, toNat_ofInt64, Nat.min_eq_left, Int.toNat_of_nonneg, h6, h11, o36, o37, hk2, hb]
      exact ⟨_, _, by omega, .refl _, k + 1, rfl, by omega, rfl, rfl⟩
  · obtain rfl : k = M'.w.length := by omega
    have hSB := SameBytes_spec (G := G) (h := H) M'.b M'.b (by omega)
    rw [decide_eq_true rfl] at hSB
    have oself := oc_self (r1 := Ro) hRo (pc := pc) (d := d) (y := y) (e := x)
    simp (disch := omega) only [push_cast, simprocAttr, wrap_i64, toNat_ofInt64, Nat.min_eq_left, Int.toNat_of_nonneg, h6, h11, o0, o32, o33, o34, o35, o36, o37, hpl, hpa, oc_z hRo, oc_pc hRo, oc_33 hRo, oc_34 hRo, oc_35 hRo, oc_len hRo, oself, hRo]
    refine (AllBytes_spec hr).to ?_
    simp (disch := omega) only [push_cast, simprocAttr, wrap_i64, toNat_ofInt64, Nat.min_eq_left, Int.toNat_of_nonneg, h6, h11, o0, o32, o33, o34, o35, o36, o37, hpl, hpa, oc_z hRo, oc_pc hRo, oc_33 hRo, oc_34 hRo, oc_35 hRo, oc_len hRo, oself, hRo]
    refine hSB.to ?_
    simp (disch := omega) only [push_cast, simprocAttr, wrap_i64, toNat_ofInt64, Nat.min_eq_left, Int.toNat_of_nonneg, h6, h11, o0, o32, o33, o34, o35, o36, o37, hpl, hpa, oc_z hRo, oc_pc hRo, oc_33 hRo, oc_34 hRo, oc_35 hRo, oc_len hRo, oself, hRo]
    refine awake24_spec.to ?_
    simp (disch := omega) only [push_cast, simprocAttr, wrap_i64, toNat_ofInt64, Nat.min_eq_left, Int.toNat_of_nonneg]
    exact hs
theorem does_tail2 (hwf : b.wf) (hm : ∀ e ∈ b.exits, e.map.length ≤ 1000) (hc : b.check = 0) (hl : w.regs.length = 32) (hs : w.size = n) (hn : rightN n = true) (hn2 : n ≤ 1024) (hb : w.b.length ≤ n)
    (hM' : M'.wf) (hRo : Ro.length = 32) (hO : b.outOf w.regs (wdM w n 16) = outC Ro pc d y x) (hR : b.ramOf w.regs (wdM w n 16) = M') {c6 : Nat} {H : Heap} (hr : RamAt H l M') (h6 : H c6 = some ⟨outC Ro pc d y x, 0⟩) (hsub : Sub h H) :
    wpc Try.prog G Try.f5.ntmps C5_37 (retQ C5r (IsS (.bool true) h)) [(2, .cp b.cells 0), (3, .cp w.cells 0), (5, .ptr l.p 0), (6, .ptr c6 0), (7, .int .i64 0), (9, .int .i64 2)] H := by
  obtain ⟨w0, w32, w33, w34, wr⟩ := wd_at hl
  have wp := wd_part hl
  have wa := wd_all hl
  have hM0 : (wdM w n 16).wf := by
    simp only [rightN, Bool.and_eq_true, decide_eq_true_eq] at hn
    unfold IRam.wf
    simp [wdM, wdB, wdW_len]
    omega
  have hC := fun H : Heap => rCheck_spec (G := G) (h := H) b hwf
  rw [hc] at hC
  have hP := fun H : Heap => Pages_spec (G := G) (h := H) hl hs hn hn2 hb
  have hD := fun H : Heap => rDo_spec (G := G) (h := H) hM0 hc hl hm
  have hOut : rOutOf b w.regs (wdM w n 16) = oT Ro pc d y x M'.cells := by rw [rOutOf, hO, hR]; rfl
  simp only [hOut] at hD
  have t3 : ∀ (c11 : Nat) (H2 : Heap), RamAt H2 l M' → H2 c6 = some ⟨outC Ro pc d y x, 0⟩ → H2 c11 = some ⟨oT Ro pc d y x M'.cells, 0⟩ → Sub h H2 → wpc Try.prog G Try.f5.ntmps C5_34 (retQ C5r (IsS (.bool true) h)) [(5, .ptr l.p 0), (6, .ptr c6 0), (7, .int .i64 0), (9, .int .i64 2), (11, .ptr c11 0)] H2 := fun c11 H2 a1 a2 a3 a4 => does_tail3 hM' hRo a1 a2 a3 a4
  show wpc _ _ _ (.seq [2, 3, 5, 6, 7, 9, 10] C5_9 (.seq [2, 3, 5, 6, 7, 9] C5_14 (.seq [5, 6, 7, 9, 11] C5_15 C5_34))) _ _ _
  generalize C5_34 = Y at t3 ⊢
  have e39 := oT_put39 (regs := Ro) (pc := pc) (done := d) (why := y) (exit := x) (T := M'.cells) hRo rfl
  have l39 := oT_len (regs := Ro) (pc := pc) (done := d) (why := y) (exit := x) (T := M'.cells) hRo rfl
  have fin : ∀ (c11 : Nat), H c11 = none → ∀ Z, RamAt (upd H c11 Z) l M' ∧ upd H c11 Z c6 = some ⟨outC Ro pc d y x, 0⟩ ∧ Sub h (upd H c11 Z) := by
    intro c11 hc11 Z
    refine ⟨hr.upd (hr.not hc11), ?_, hsub.alloc hc11⟩
    rw [upd_ne (fun e => by rw [← e, h6] at hc11; cases hc11)]
    exact h6
  simp only [push_cast, simprocAttr, wp, wa]
  refine (hC _).to ?_
  simp only [push_cast, simprocAttr, wp, wa]
  refine ⟨?_, ?_⟩
  · refine (hP _).to ?_
    simp only [push_cast, simprocAttr, wp, wa, e39, l39]
    refine ⟨?_, ?_⟩
    · refine (hD _).to ?_
      simp only [push_cast, simprocAttr, wp, wa, e39, l39]
      intro c11 hc11
      obtain ⟨f1, f2, f3⟩ := fin c11 hc11 ⟨oT Ro pc d y x M'.cells, 0⟩
      exact t3 c11 _ f1 f2 (upd_same _ _ _) f3
    · intro c11 hc11
      refine (hD _).to ?_
      simp only [push_cast, simprocAttr, wp, wa, e39, l39]
      obtain ⟨f1, f2, f3⟩ := fin c11 hc11 ⟨oT Ro pc d y x M'.cells, 0⟩
      exact t3 c11 _ f1 f2 (upd_same _ _ _) f3
  · intro c11 hc11
    refine (hP _).to ?_
    simp only [push_cast, simprocAttr, wp, wa, e39, l39]
    refine (hD _).to ?_
    simp only [push_cast, simprocAttr, wp, wa, e39, l39]
    obtain ⟨f1, f2, f3⟩ := fin c11 hc11 ⟨oT Ro pc d y x M'.cells, 0⟩
    exact t3 c11 _ f1 f2 (upd_same _ _ _) f3
theorem does_tail1 {e f : Int} {O : List AV} (hwf : b.wf) (hl : w.regs.length = 32)
    (hN : ∀ H, Spec Try.prog G 14 [bkP b, .agg (wds w.regs), .nilp] H (Is (.tup [.agg (outC (List.replicate 32 0) 0#32 0 0 0), .int .i64 f]) H))
    (hT : ∀ (c6 : Nat) (H : Heap), RamAt H l M' → H c6 = some ⟨O, 0⟩ → Sub h H → wpc Try.prog G Try.f5.ntmps C5_37 (retQ C5r (IsS (.bool true) h)) [(2, .cp b.cells 0), (3, .cp w.cells 0), (5, .ptr l.p 0), (6, .ptr c6 0), (7, .int .i64 e), (9, .int .i64 f)] H)
    {c6 : Nat} {H : Heap} (hr : RamAt H l M') (h6 : H c6 = some ⟨O, 0⟩) (hsub : Sub h H) :
    wpc Try.prog G Try.f5.ntmps C5_38 (retQ C5r (IsS (.bool true) h)) [(2, .cp b.cells 0), (3, .cp w.cells 0), (5, .ptr l.p 0), (6, .ptr c6 0), (7, .int .i64 e)] H := by
  have wp := wd_part hl
  have wa := wd_all hl
  have hOw := fun H : Heap => Own_spec (G := G) (h := H) b hwf
  show wpc _ _ _ (.seq [2, 3, 5, 6, 7, 9] C5_8 C5_37) _ _ _
  generalize C5_37 = Y at hT ⊢
  have l0 : (List.replicate 32 (0 : BitVec 32)).length = 32 := rfl
  have e36 := oc_put36 (regs := List.replicate 32 0) (pc := 0#32) (done := 0) (why := 0) (exit := 0) l0
  have l36 := oc_len (regs := List.replicate 32 0) (pc := 0#32) (done := 0) (why := 0) (exit := 0) l0
  have fin : ∀ (c : Nat), H c = none → ∀ Z, RamAt (upd H c Z) l M' ∧ upd H c Z c6 = some ⟨O, 0⟩ ∧ Sub h (upd H c Z) := by
    intro c hc Z
    refine ⟨hr.upd (hr.not hc), ?_, hsub.alloc hc⟩
    rw [upd_ne (fun e => by rw [← e, h6] at hc; cases hc)]
    exact h6
  generalize outC (List.replicate 32 0) 0#32 0 0 0 = OZ at hN e36 l36
  simp only [push_cast, simprocAttr, wp, wa]
  refine ⟨?_, ?_⟩
  · refine (hOw _).to ?_
    simp only [push_cast, simprocAttr, wp, wa, e36, l36]
    refine ⟨?_, ?_⟩
    · refine (hN _).to ?_
      simp only [push_cast, simprocAttr, wp, wa, e36, l36]
      intro c hc
      obtain ⟨f1, f2, f3⟩ := fin c hc ⟨OZ, 0⟩
      exact hT c6 _ f1 f2 f3
    · intro c hc
      refine (hN _).to ?_
      simp only [push_cast, simprocAttr, wp, wa, e36, l36]
      obtain ⟨f1, f2, f3⟩ := fin c hc ⟨OZ, 0⟩
      exact hT c6 _ f1 f2 f3
  · intro c hc
    refine (hOw _).to ?_
    simp only [push_cast, simprocAttr, wp, wa, e36, l36]
    refine (hN _).to ?_
    simp only [push_cast, simprocAttr, wp, wa, e36, l36]
    obtain ⟨f1, f2, f3⟩ := fin c hc ⟨OZ, 0⟩
    exact hT c6 _ f1 f2 f3
/-- All behind the world's memory. -/
theorem does_tail0 {e f : Int} (hwf : b.wf) (hl : w.regs.length = 32) (hRo : Ro.length = 32) {M : IRam}
    (hA : ∀ H, RamAt H l M → Spec Try.prog G 14 [bkP b, .agg (wds w.regs), .ptr l.p 0] H (DoTo H l M' (.tup [.agg (outC Ro pc d y x), .int .i64 e])))
    (hN : ∀ H, Spec Try.prog G 14 [bkP b, .agg (wds w.regs), .nilp] H (Is (.tup [.agg (outC (List.replicate 32 0) 0#32 0 0 0), .int .i64 f]) H))
    (hT : ∀ (c6 : Nat) (H : Heap), RamAt H l M' → H c6 = some ⟨outC Ro pc d y x, 0⟩ → Sub h H → wpc Try.prog G Try.f5.ntmps C5_37 (retQ C5r (IsS (.bool true) h)) [(2, .cp b.cells 0), (3, .cp w.cells 0), (5, .ptr l.p 0), (6, .ptr c6 0), (7, .int .i64 e), (9, .int .i64 f)] H)
    {H : Heap} (hr : RamAt H l M) (hnew : ∀ c, l.has c → h c = none) (hsub : ∀ c, ¬ l.has c → H c = h c) :
    wpc Try.prog G Try.f5.ntmps C5_39 (retQ C5r (IsS (.bool true) h)) [(2, .cp b.cells 0), (3, .cp w.cells 0), (5, .ptr l.p 0)] H := by
  have wp := wd_part hl
  have wa := wd_all hl
  have hOw := fun H : Heap => Own_spec (G := G) (h := H) b hwf
  have t1 : ∀ (c6 : Nat) (H : Heap), RamAt H l M' → H c6 = some ⟨outC Ro pc d y x, 0⟩ → Sub h H → wpc Try.prog G Try.f5.ntmps C5_38 (retQ C5r (IsS (.bool true) h)) [(2, .cp b.cells 0), (3, .cp w.cells 0), (5, .ptr l.p 0), (6, .ptr c6 0), (7, .int .i64 e)] H :=
    fun c6 H a1 a2 a3 => does_tail1 hwf hl hN hT a1 a2 a3
  show wpc _ _ _ (.seq [2, 3, 5, 6, 7] C5_7 C5_38) _ _ _
  generalize C5_38 = Y at t1 ⊢
  have e36 := oc_put36 (regs := Ro) (pc := pc) (done := d) (why := y) (exit := x) hRo
  have l36 := oc_len (regs := Ro) (pc := pc) (done := d) (why := y) (exit := x) hRo
  generalize outC Ro pc d y x = OZ at *
  have hs1 : ∀ H2 : Heap, (∀ c, ¬ l.has c → H2 c = H c) → Sub h H2 := fun H2 h2 c z hc => by
    have hn' : ¬ l.has c := fun e => by rw [hnew c e] at hc; cases hc
    rw [h2 c hn', hsub c hn']; exact hc
  have hs2 : ∀ (H2 : Heap) (c : Nat) (Z1 Z2 : Blk), H c = none → ¬ l.has c → (∀ d, ¬ l.has d → H2 d = upd H c Z1 d) → Sub h (upd H2 c Z2) := fun H2 c Z1 Z2 hc nl h2 c' z hc' => by
    have hn' : ¬ l.has c' := fun e => by rw [hnew c' e] at hc'; cases hc'
    have hne : c' ≠ c := fun e => by rw [e, ← hsub c nl, hc] at hc'; cases hc'
    rw [upd_ne hne, h2 c' hn', upd_ne hne, hsub c' hn']; exact hc'
  simp only [push_cast, simprocAttr, wp, wa]
  refine ⟨?_, ?_⟩
  · refine (hOw _).to ?_
    simp only [push_cast, simprocAttr, wp, wa, e36, l36]
    refine ⟨?_, ?_⟩
    · refine (hA _ hr).mono ?_
      rintro _ H2 ⟨rfl, hr2, hold2⟩
      simp only [push_cast, simprocAttr, wp, wa, e36, l36]
      intro c hc
      exact t1 c _ (hr2.upd (hr2.not hc)) (upd_same _ _ _) ((hs1 H2 hold2).alloc hc)
    · intro c hc
      have nl := hr.not hc
      refine (hA _ (hr.upd nl)).mono ?_
      rintro _ H2 ⟨rfl, hr2, hold2⟩
      have hc2 := (hold2 c nl).trans (upd_same _ _ _)
      simp only [push_cast, simprocAttr, wp, wa, e36, l36, hc2]
      exact t1 c _ (hr2.upd nl) (upd_same _ _ _) (hs2 H2 c _ _ hc nl hold2)
  · intro c hc
    have nl := hr.not hc
    refine (hOw _).to ?_
    simp only [push_cast, simprocAttr, wp, wa, e36, l36]
    refine (hA _ (hr.upd nl)).mono ?_
    rintro _ H2 ⟨rfl, hr2, hold2⟩
    have hc2 := (hold2 c nl).trans (upd_same _ _ _)
    simp only [push_cast, simprocAttr, wp, wa, e36, l36, hc2]
    exact t1 c _ (hr2.upd nl) (upd_same _ _ _) (hs2 H2 c _ _ hc nl hold2)
/-- The block that is not right. -/
theorem does_bad (hwf : b.wf) (hc : b.check ≠ 0) (hl : w.regs.length = 32) {c6 : Nat} {H : Heap} (h6 : H c6 = some ⟨outC (List.replicate 32 0) 0#32 0 0 0, 0⟩) (hsub : Sub h H) :
    wpc Try.prog G Try.f5.ntmps C5_37 (retQ C5r (IsS (.bool true) h)) [(2, .cp b.cells 0), (3, .cp w.cells 0), (5, .ptr l.p 0), (6, .ptr c6 0), (7, .int .i64 b.check), (9, .int .i64 b.check)] H := by
  have hC := rCheck_spec (G := G) (h := H) b hwf
  have l0 : (List.replicate 32 (0 : BitVec 32)).length = 32 := rfl
  have hpa := oc_all (regs := List.replicate 32 0) (pc := 0#32) (done := 0) (why := 0) (exit := 0) l0
  have oself := oc_self (r1 := List.replicate 32 0) l0 (pc := 0#32) (d := 0) (y := 0) (e := 0)
  have oselfz : aeq false [.i, .i, .i, .i, .i, .i, .i, .i, .i, .i, .i, .i, .i, .i, .i, .i, .i, .i, .i, .i, .i, .i, .i, .i, .i, .i, .i, .i, .i, .i, .i, .i, .i, .i, .i, .i] (.agg (outC (List.replicate 32 0) 0#32 0 0 0)) (.agg [.int .u32 0, .int .u32 0, .int .u32 0, .int .u32 0, .int .u32 0, .int .u32 0, .int .u32 0, .int .u32 0, .int .u32 0, .int .u32 0, .int .u32 0, .int .u32 0, .int .u32 0, .int .u32 0, .int .u32 0, .int .u32 0, .int .u32 0, .int .u32 0, .int .u32 0, .int .u32 0, .int .u32 0, .int .u32 0, .int .u32 0, .int .u32 0, .int .u32 0, .int .u32 0, .int .u32 0, .int .u32 0, .int .u32 0, .int .u32 0, .int .u32 0, .int .u32 0, .int .u32 0, .int .i64 0, .int .i64 0, .int .i64 0]) = some (.bool true) := oself
  generalize outC (List.replicate 32 0) 0#32 0 0 0 = OZ at h6 hpa oselfz
  clear oself l0
  generalize b.check = g at hC hc ⊢
  simp only [push_cast, simprocAttr, h6]
  refine hC.to ?_
  have hg : (g = 0) = False := by simp [hc]
  simp only [push_cast, simprocAttr, h6, hg, hpa, oselfz]
  refine awake24_spec.to ?_
  simp only [push_cast, simprocAttr]
  exact hsub
theorem lawDoes_spec (b : IBk) (w : IWd) (he : b.exits.length ≤ 9223372036854775807) (hl : w.regs.length = 32) : Spec Try.prog G 5 [.agg b.cells, .agg w.cells] h (Is (.bool true) h) := by
  obtain ⟨w0, w32, w33, w34, wr⟩ := wd_at hl
  have wp := wd_part hl
  have wa := wd_all hl
  have hL := light24_spec (G := G) (h := h) b w he hl
  cases hlt : light24 b w with
  | false =>
    rw [hlt] at hL
    refine Spec.is C5ok rfl ?_
    simp only [push_cast, simprocAttr, wa]
    refine hL.to ?_
    simp only [push_cast, simprocAttr, wa]
    refine awake24_spec.to ?_
    simp only [push_cast, simprocAttr]
  | true =>
    rw [hlt] at hL
    obtain ⟨hwf, ho, hx, hp, hm, n, hs, hn, hn2, hb, h0⟩ := light24_facts hlt
    have hm2 : ∀ e ∈ b.exits, e.map.length ≤ 1000 := fun e q => Nat.le_trans (hm e q) (by decide)
    have key : ∀ (l : Pl) (H : Heap), RamAt H l (wdM w n 16) → (∀ c, l.has c → h c = none) → (∀ c, ¬ l.has c → H c = h c) →
        wpc Try.prog G Try.f5.ntmps C5_39 (retQ C5r (IsS (.bool true) h)) [(2, .cp b.cells 0), (3, .cp w.cells 0), (5, .ptr l.p 0)] H := by
      intro l H hr hnew hold
      by_cases hc : b.check = 0
      · have hr' := check_right hc
        obtain ⟨R, pc, d, y, X, hO, hX, hRl, hXl, _⟩ := out_of hr' hl (wdM w n 16)
        have hA := fun (H : Heap) (hr : RamAt H l (wdM w n 16)) => Do_right (G := G) (regs := w.regs) hr hwf hc hl hm2
        have hN := fun (H : Heap) => Do_nil (G := G) (h := H) (regs := w.regs) hwf hc hl
        rw [hO] at hA
        have hMw : (b.ramOf w.regs (wdM w n 16)).wf := by
          exact runN_wf w.regs b.ops [] _ (wdM_wf hn hb)
        exact does_tail0 hwf hl hRl hA hN (fun c6 H a1 a2 a3 => does_tail2 hwf hm2 hc hl hs hn hn2 hb hMw hRl hO rfl a1 a2 a3) hr hnew hold
      · have hA := fun (H : Heap) (hr : RamAt H l (wdM w n 16)) => (Do_wrong (G := G) (h := H) (regs := w.regs) (.ptr l.p 0) hwf hc hl).mono (Q' := DoTo H l (wdM w n 16) (.tup [.agg (outC (List.replicate 32 0) 0#32 0 0 0), .int .i64 b.check])) fun r h' ⟨e1, e2⟩ => ⟨e1, e2 ▸ hr, fun c _ => by rw [e2]⟩
        have hN := fun (H : Heap) => Do_wrong (G := G) (h := H) (regs := w.regs) .nilp hwf hc hl
        exact does_tail0 hwf hl rfl hA hN (fun c6 H a1 a2 a3 => does_bad hwf hc hl a2 a3) hr hnew hold
    refine Spec.is C5ok rfl ?_
    show wpc _ _ _ (.seq [2, 3] C5_0 (.seq [2, 3] C5_5 (.seq [2, 3, 5] C5_6 C5_39))) _ _ _
    generalize C5_39 = Y at key ⊢
    simp only [push_cast, simprocAttr, wa]
    refine hL.to ?_
    simp only [push_cast, simprocAttr, wa]
    refine (Memory_spec hl hs hn hb).mono ?_
    rintro _ H ⟨l, rfl, hr1, hnew, hold⟩
    simp only [push_cast, simprocAttr]
    exact key l H hr1 hnew hold
end
end Go.Ab
