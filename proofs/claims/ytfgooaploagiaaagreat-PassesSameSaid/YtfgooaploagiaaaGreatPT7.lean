/- The statement PassesSameSaid, from the contract of its function. -/
import Derived.Test.YtfgooaploagiaaaGreatPT6
import Derived.ProofKit
import Derived.OpenShut
import Derived.ShutString
import Derived.ChangeOld
import Derived.Below
import Derived.Test.YtfgooaploagiaaaGreatRows
import Derived.WalkKit
section
/- The law of what is behind a block, done. -/
set_option linter.unusedSimpArgs false
set_option linter.unusedVariables false
set_option maxRecDepth 10000
namespace Go.Ab
open Go.Proofs
variable {G : Glo} {h : Heap}
theorem oT_reg {regs : List (BitVec 32)} (hl : regs.length = 32) {pc : BitVec 32} {d y x : Int} {T : List AV} : partOf (oT regs pc d y x T) 0 (some 32) = some (.agg (wds regs)) ∧ (oT regs pc d y x T)[32]? = some (.int .u32 (pc.toNat : Int)) ∧ (oT regs pc d y x T)[33]? = some (.int .i64 d) ∧ (oT regs pc d y x T)[34]? = some (.int .i64 y) ∧ (oT regs pc d y x T)[35]? = some (.int .i64 x) := by
  have hw : (wds regs).length = 32 := by simp [wds, hl]
  have ho := oc_len (pc := pc) (done := d) (why := y) (exit := x) hl
  obtain ⟨o1, o2, o3, o4⟩ := oc_at (pc := pc) (done := d) (why := y) (exit := x) hl
  refine ⟨?_, ?_, ?_, ?_, ?_⟩
  · simp only [partOf]
    rw [if_pos (by simp [oT, ho]; omega), oT, outC, List.drop_zero, List.append_assoc, List.take_append_of_le_length (by omega), List.take_of_length_le (by omega)]
  all_goals rw [oT, List.getElem?_append_left (by rw [ho]; omega)]; assumption
theorem oT_ram {regs : List (BitVec 32)} (hl : regs.length = 32) {pc : BitVec 32} {d y x : Int} {M : IRam} : (oT regs pc d y x M.cells)[36]? = some (byt M.b) ∧ (oT regs pc d y x M.cells)[37]? = some (.ro (bos M.w) M.w.length) := by
  have ho := oc_len (pc := pc) (done := d) (why := y) (exit := x) hl
  refine ⟨?_, ?_⟩ <;> (rw [oT, List.getElem?_append_right (by omega), ho]; rfl)
theorem runN_wf (regs : List (BitVec 32)) : ∀ (l : List IOp) (vals : List (BitVec 32)) (M : IRam), M.wf → (runN regs l vals M).2.2.wf := by
  intro l
  induction l with
  | nil => intro vals M hM; exact hM
  | cons o r ih =>
    intro vals M hM
    have hs := step_wf hM regs o vals
    simp only [runN]
    split
    · exact ih _ _ hs
    · exact hs
theorem wdM_wf {w : IWd} {n : Nat} (hn : rightN n = true) (hb : w.b.length ≤ n) : (wdM w n 16).wf := by
  simp only [rightN, Bool.and_eq_true, decide_eq_true_eq] at hn
  unfold IRam.wf
  simp [wdM, wdB, wdW_len]
  omega
section
variable {b : IBk} {w : IWd} {n : Nat} {l : Pl} {M' : IRam} {Ro : List (BitVec 32)} {pc : BitVec 32} {d y x : Int}
end
end Go.Ab
end
section
/- Passes: what the laws ask besides. -/
set_option linter.unusedSimpArgs false
set_option linter.unusedVariables false
set_option maxRecDepth 10000
namespace Go.Ab
open Go.Proofs
variable {G : Glo} {h : Heap}
theorem light33_spec (b : IBk) (he : b.exits.length ≤ 9223372036854775807) : Spec Tryz.prog G 7 [.agg b.cells] h (Is (.bool b.light) h) := by
  have hL : b.light = (! b.heavy && allN b.exits.length fun i => decide ((b.exits.getD i IEx.zero).map.length ≤ 100)) := rfl
  have hH : b.heavy = (decide (b.pcs.length > 100) || (decide (b.ops.length > 100) && decide (b.ops.length ≤ 512)) || decide (b.ops.length > 600) || decide (b.exits.length > 200)) := rfl
  generalize b.light = L at hL ⊢
  refine Spec.is C7ok rfl ?_
  simp only [push_cast, simprocAttr]
  refine ⟨fun h1 => ⟨fun h2 => ?_, fun h2 => ?_⟩, fun h1 => ?_⟩
  · have : b.heavy = true := by rw [hH]; simp only [Bool.or_eq_true, Bool.and_eq_true, decide_eq_true_eq]; omega
    rw [hL, this]; rfl
  · have : b.heavy = false := by
      rw [hH, ← Bool.not_eq_true]
      simp only [Bool.or_eq_true, Bool.and_eq_true, decide_eq_true_eq]
      rw [← Bool.not_eq_true] at h2
      simp only [Bool.and_eq_true, decide_eq_true_eq] at h2
      omega
    rw [this, Bool.not_false, Bool.true_and] at hL
    refine lpc.rel [1, 3] (fun m ρ h' => ∃ k : Nat, m = b.exits.length - k ∧ k ≤ b.exits.length ∧ h = h' ∧ (∀ i, i < k → decide ((b.exits.getD i IEx.zero).map.length ≤ 100) = true) ∧
      ρ = [(1, .cp b.cells 0), (3, .int .i64 (k : Int))]) ⟨_, 0, rfl, by omega, rfl, by intro i hi; omega, rfl⟩ ?_
    rintro m _ _ ⟨k, rfl, hk, rfl, hall, rfl⟩
    simp only [push_cast, simprocAttr]
    refine ⟨fun hk2 => ⟨hk2, hk2, fun hv => ?_, fun hv => ?_⟩, fun hk2 => ?_⟩
    · rw [hL, allN_false k hk2 (decide_eq_false (by omega))]
    · simp (disch := omega) only [push_cast, simprocAttr, wrap_i64, toNat_ofInt64, Nat.min_eq_left, Int.toNat_of_nonneg]
      refine ⟨_, _, by omega, .refl _, k + 1, rfl, by omega, rfl, fun i hi => ?_, rfl⟩
      by_cases hik : i = k
      · subst hik; omega
      · exact of_decide_eq_true (hall i (by omega))
    · obtain rfl : k = b.exits.length := by omega
      rw [hL, allN_true hall]
  · have : b.heavy = true := by rw [hH]; simp only [Bool.or_eq_true, Bool.and_eq_true, decide_eq_true_eq]; omega
    rw [hL, this]; rfl
theorem out_of_res (b : IBk) (regs : List (BitVec 32)) (M : IRam) : ∃ x, b.outOf regs M = outC (b.res regs M).regs (b.res regs M).pc (b.res regs M).done (b.res regs M).why x ∧ b.ramOf regs M = (b.res regs M).ram := by
  refine ⟨_, rfl, rfl⟩
def W33 : IBk := ⟨[0], [⟨1, 0, 0, 1, 0, 0⟩, ⟨2, 0, 0, 0, 0, 0⟩, ⟨3, 0, 1, 28, 0, 0⟩], [⟨1, 0, -1, 4, [⟨1, 2⟩]⟩], 0⟩
def W33z : IBk := ⟨[0], [], [⟨1, 0, -1, 4, []⟩], 0⟩
theorem W33_check : W33.check = 0 := by decide
theorem W33_wf : W33.wf := by
  refine ⟨by decide, by decide, by decide, ?_, by decide, by decide, by decide, ?_⟩ <;> decide
end Go.Ab
end
section
/- Passes: the laws' example; outcomes that are the same. -/
set_option linter.unusedSimpArgs false
set_option linter.unusedVariables false
set_option maxRecDepth 10000
namespace Go.Ab
open Go.Proofs
variable {G : Glo} {h : Heap}
theorem regs_self {r : List (BitVec 32)} (hr : r.length = 32) : aeq false [.i, .i, .i, .i, .i, .i, .i, .i, .i, .i, .i, .i, .i, .i, .i, .i, .i, .i, .i, .i, .i, .i, .i, .i, .i, .i, .i, .i, .i, .i, .i, .i] (.agg (wds r)) (.agg (wds r)) = some (.bool true) := by
  have := cells_wds [] [] [] r r rfl
  rw [hr] at this
  simp only [List.append_nil] at this
  have h3 : cellsEq [] [] [] = some true := rfl
  rw [h3] at this
  simp only [aeq]
  refine (congrArg (Option.map _) this).trans ?_
  simp
theorem rSame24_spec {R : List (BitVec 32)} {pc : BitVec 32} {d y x x' : Int} {M : IRam} (hR : R.length = 32) (hM : M.b.length ≤ 140737488355328) : Spec Tryz.prog G 21 [.agg (oT R pc d y x M.cells), .agg (oT R pc d y x' M.cells)] h (Is (.bool true) h) := by
  obtain ⟨o0, o32, o33, o34, _⟩ := oT_reg (pc := pc) (d := d) (y := y) (x := x) (T := M.cells) hR
  obtain ⟨q0, q32, q33, q34, _⟩ := oT_reg (pc := pc) (d := d) (y := y) (x := x') (T := M.cells) hR
  obtain ⟨o36, _⟩ := oT_ram (pc := pc) (d := d) (y := y) (x := x) (M := M) hR
  obtain ⟨q36, _⟩ := oT_ram (pc := pc) (d := d) (y := y) (x := x') (M := M) hR
  have hs := regs_self hR
  have hSB := SameBytes_spec (G := G) (h := h) M.b M.b hM
  rw [decide_eq_true rfl] at hSB
  generalize oT R pc d y x M.cells = O at *
  generalize oT R pc d y x' M.cells = O' at *
  refine Spec.is C21ok rfl ?_
  simp only [push_cast, simprocAttr, o0, o32, o33, o34, o36, q0, q32, q33, q34, q36, hs]
  refine hSB.to ?_
  simp only [push_cast, simprocAttr]
def W33a : IBk := ⟨[0], [⟨1, 0, 0, 1, 0, 0⟩, ⟨2, 0, 0, 0, 0, 0⟩], [⟨1, 0, -1, 4, [⟨1, 0⟩]⟩], 0⟩
theorem W33_fold : W33.ps foldF = W33a := by decide
theorem W33_num : W33a.ps numF = W33a := by decide
theorem W33_gd : W33a.gd = W33a := by decide
theorem W33_ask : askN W33a = fun _ => false := by
  funext k
  rw [← Bool.not_eq_true, askN_iff]
  intro hS
  refine hS (fun _ => False) ⟨fun j _ h => h.elim, fun k hk h4 => ?_, fun n hn _ h => ?_, fun n hn _ v hv ho => ?_⟩
  · match k, hk with
    | 0, _ => simp [W33a, IBk.op] at h4
    | 1, _ => simp [W33a, IBk.op] at h4
  · match n, hn with
    | 0, _ => exact h rfl
  · match n, hn with
    | 0, _ =>
      have : v = ⟨1, 0⟩ := by simpa [W33a, IBk.ex] using hv
      subst this
      revert ho
      decide
theorem W33_dd : W33a.dd (askN W33a) = W33z := by rw [W33_ask]; decide
theorem W33z_fold : W33z.ps foldF = W33z := by decide
theorem W33z_num : W33z.ps numF = W33z := by decide
theorem W33z_gd : W33z.gd = W33z := by decide
theorem W33z_dd : W33z.dd (askN W33z) = W33z := by
  have : ∀ kp, W33z.dd kp = W33z := fun kp => rfl
  exact this _
theorem bits15 : bitM 15 1 = true ∧ bitM 15 2 = true ∧ bitM 15 4 = true ∧ bitM 15 8 = true := by decide
theorem round15 (b : IBk) : roundN 15 b = ((((b.ps foldF).ps numF).gd).dd (askN (((b.ps foldF).ps numF).gd))) := by
  obtain ⟨h1, h2, h3, h4⟩ := bits15
  unfold roundN
  simp only [roundK, h1, h2, h3, h4, if_true]
  rfl
theorem W33_run : runP 15 8 W33 = W33z := by
  have r1 : roundN 15 W33 = W33z := by rw [round15, W33_fold, W33_num, W33_gd, W33_dd]
  have r2 : roundN 15 W33z = W33z := by rw [round15, W33z_fold, W33z_num, W33z_gd, W33z_dd]
  rw [runP, r1, if_neg (by decide), runP, r2, if_pos rfl]
theorem W33z_wf : W33z.wf := by
  refine ⟨by decide, by decide, by decide, ?_, by decide, by decide, by decide, ?_⟩ <;> decide
theorem awake33_spec : Spec Tryz.prog G 8 [] h (Is (.bool true) h) := by
  have hR := fun h : Heap => Run_spec (G := G) (h := h) W33 15 W33_wf W33_check
  rw [W33_run] at hR
  have s1 := fun h : Heap => Size_spec (G := G) (h := h) W33 W33_wf (by decide)
  have s2 := fun h : Heap => Size_spec (G := G) (h := h) W33z W33z_wf (by decide)
  have e1 : (if W33.check = 0 then (W33.size : Int) else 0) = 5 := by decide
  have e2 : (if W33z.check = 0 then (W33z.size : Int) else 0) = 1 := by decide
  simp only [e1] at s1
  simp only [e2] at s2
  refine Spec.is C8ok rfl ?_
  simp only [push_cast, simprocAttr]
  intro b hb
  refine ⟨bkP W33, h, Le.box hb, ?_⟩
  simp only [push_cast, simprocAttr]
  refine (hR _).to ?_
  have hz : W33z.ops.length = 0 := rfl
  simp only [push_cast, simprocAttr, hz]
  refine (s1 _).to ?_
  simp only [push_cast, simprocAttr]
  refine (s2 _).to ?_
  simp only [push_cast, simprocAttr]
end Go.Ab
end
section
/- The law PassesSame, asz it runs. -/
set_option linter.unusedSimpArgs false
set_option linter.unusedVariables false
set_option maxRecDepth 10000
namespace Go.Ab
open Go.Proofs
variable {G : Glo} {h : Heap}
theorem same_out {b b1 : IBk} (hk : Kps b1 b) {regs : List (BitVec 32)} (hl : regs.length = 32) {M : IRam} (hM : M.wf) : ∃ (R : List (BitVec 32)) (pc : BitVec 32) (d y x x' : Int) (M' : IRam), rOutOf b regs M = oT R pc d y x M'.cells ∧ rOutOf b1 regs M = oT R pc d y x' M'.cells ∧ R.length = 32 ∧ M'.b.length ≤ 140737488355328 := by
  obtain ⟨x, e1, e2⟩ := out_of_res b regs M
  obtain ⟨x', q1, q2⟩ := out_of_res b1 regs M
  rw [hk.res regs hl M] at q1 q2
  have hMw : (b.res regs M).ram.wf := runN_wf regs b.ops [] _ hM
  refine ⟨(b.res regs M).regs, (b.res regs M).pc, (b.res regs M).done, (b.res regs M).why, x, x', (b.res regs M).ram, ?_, ?_, ?_, ?_⟩
  · rw [rOutOf, e1, e2]; rfl
  · rw [rOutOf, q1, q2]; rfl
  · show (leaveR _ regs _).length = 32
    rw [leaveR, foldR_len, hl]
  · unfold IRam.wf at hMw
    omega
theorem lawPSame_spec (b : IBk) (mask : Int) (w : IWd) (he : b.exits.length ≤ 9223372036854775807) (hl : w.regs.length = 32) : Spec Tryz.prog G 4 [.agg b.cells, .int .i64 mask, .agg w.cells] h (Is (.bool true) h) := by
  obtain ⟨w0, w32, w33, w34, wr⟩ := wd_at hl
  have wp := wd_part hl
  have wa := wd_all hl
  have hb0 := bv0 (w.regs.getD 0 0#32)
  have hL := light33_spec (G := G) (h := h) b he
  have hRt := rRight10_spec (G := G) (h := h) w.size
  have hpa : partOf b.cells 0 (some 4) = some (.agg b.cells) := partOf_all rfl
  cases hlt : b.light with
  | false =>
    rw [hlt] at hL
    refine Spec.is C4ok rfl ?_
    simp only [push_cast, simprocAttr, hpa]
    refine hL.to ?_
    simp only [push_cast, simprocAttr, hpa]
    refine awake33_spec.to ?_
    simp only [push_cast, simprocAttr]
  | true =>
    rw [hlt] at hL
    obtain ⟨hwf, ho, hx, hp, hz, hm⟩ := light_facts hlt
    have hC := rCheck_spec (G := G) (h := h) b hwf
    by_cases hc : b.check = 0
    · rw [hc] at hC
      have hk := run_kps mask 8 hc
      have hw1 := hk.nol.wf hwf
      have hsz := hk.nol.size
      have kOwn := fun h : Heap => Own_spec (G := G) (h := h) b hwf
      have kRun := fun h : Heap => Run_spec (G := G) (h := h) b mask hwf hc
      generalize runP mask 8 b = b1 at *
      have kBack := fun h : Heap => Back_spec (G := G) (h := h) b1 hw1
      have kC1 := fun h : Heap => rCheck_spec (G := G) (h := h) b1 hw1
      rw [hk.check] at kC1
      have kS := fun h : Heap => rSize_spec (G := G) (h := h) b hwf (by omega)
      have kS1 := fun h : Heap => rSize_spec (G := G) (h := h) b1 hw1 (by omega)
      have hp1 : partOf b1.cells 0 (some 4) = some (.agg b1.cells) := partOf_all rfl
      have hl1 : b1.cells.length = 4 := rfl
      have hm1 : ∀ e ∈ b.exits, e.map.length ≤ 1000 := fun e q => Nat.le_trans (hm e q) (by decide)
      have hm2 : ∀ e ∈ b1.exits, e.map.length ≤ 1000 := fun e q => by
        obtain ⟨e', q1, q2⟩ := hk.nol.map e q
        have := hm e' q1
        omega
      refine Spec.is C4ok rfl ?_
      simp only [push_cast, simprocAttr, hpa]
      refine hL.to ?_
      simp only [push_cast, simprocAttr, hpa]
      refine hC.to ?_
      simp only [push_cast, simprocAttr, hpa, w32]
      refine hRt.to ?_
      cases hrt : rightN w.size with
      | false =>
        simp only [push_cast, simprocAttr]
        refine awake33_spec.to ?_
        simp only [push_cast, simprocAttr]
      | true =>
        have hrt' := hrt
        simp only [rightN, Bool.and_eq_true, decide_eq_true_eq] at hrt'
        obtain ⟨n, hs⟩ : ∃ n : Nat, w.size = n := ⟨w.size.toNat, by omega⟩
        rw [hs] at w32 hrt hrt'
        by_cases z1 : (n : Int) > 1024
        · simp only [push_cast, simprocAttr, w32, w33, wr, z1]
          refine awake33_spec.to ?_
          simp only [push_cast, simprocAttr]
        by_cases z2 : (w.b.length : Int) > (n : Int)
        · simp only [push_cast, simprocAttr, w32, w33, wr, z1, z2]
          refine awake33_spec.to ?_
          simp only [push_cast, simprocAttr]
        by_cases z3 : ((w.regs.getD 0 0#32).toNat : Int) = 0
        · have hn2 : n ≤ 1024 := by omega
          have hbn : w.b.length ≤ n := by omega
          have hM0 := wdM_wf (w := w) hrt hbn
          obtain ⟨R, pc, d, y, x, x', M', o1, o2, hR, hM'⟩ := same_out hk hl hM0
          have kP := fun h : Heap => Pages_spec (G := G) (h := h) hl hs hrt hn2 hbn
          have kD := fun h : Heap => rDo_spec (G := G) (h := h) hM0 hc hl hm1
          have kD1 := fun h : Heap => rDo_spec (G := G) (h := h) hM0 hk.check hl hm2
          rw [o1] at kD
          rw [o2] at kD1
          have kSm := fun h : Heap => rSame24_spec (G := G) (h := h) (pc := pc) (d := d) (y := y) (x := x) (x' := x') hR hM'
          have rml : (wdM w n 16).cells.length = 3 := rfl
          have rma : partOf (wdM w n 16).cells 0 (some 3) = some (.agg (wdM w n 16).cells) := partOf_all rfl
          have z4 : ¬ ((b1.size : Int) > (b.size : Int)) := by omega
          simp only [push_cast, simprocAttr, w32, w33, wr, z1, z2, z3, hpa]
          refine (kOwn _).to ?_
          simp only [push_cast, simprocAttr]
          refine (kRun _).to ?_
          simp only [push_cast, simprocAttr]
          refine (kBack _).to ?_
          simp only [push_cast, simprocAttr, hl1]
          intro c9 hc9
          rw [era_none hc9]
          refine (kC1 _).to ?_
          simp only [push_cast, simprocAttr, hp1, hpa]
          refine (kS1 _).to ?_
          simp only [push_cast, simprocAttr, hp1, hpa]
          refine (kS _).to ?_
          simp only [push_cast, simprocAttr, z4, wa]
          refine (kP _).to ?_
          simp only [push_cast, simprocAttr, rml]
          intro c10 hc10
          rw [era_none hc10]
          simp only [push_cast, simprocAttr, wp, hpa, hp1, rma]
          refine (kD _).to ?_
          simp only [push_cast, simprocAttr, wp, hpa, hp1, rma]
          refine (kD1 _).to ?_
          simp only [push_cast, simprocAttr, wp, hpa, hp1, rma]
          refine (kSm _).to ?_
          simp only [push_cast, simprocAttr]
          refine awake33_spec.to ?_
          simp only [push_cast, simprocAttr]
        · simp only [push_cast, simprocAttr, w32, w33, wr, z1, z2, z3]
          refine awake33_spec.to ?_
          simp only [push_cast, simprocAttr]
    · have hc' : (b.check != 0) = true := by simp [hc]
      refine Spec.is C4ok rfl ?_
      simp only [push_cast, simprocAttr, hpa]
      refine hL.to ?_
      simp only [push_cast, simprocAttr, hpa]
      refine hC.to ?_
      simp only [push_cast, simprocAttr, hc']
      refine awake33_spec.to ?_
      simp only [push_cast, simprocAttr]
end Go.Ab
end
section
/- A frame for walks over what values stand for, part Ab11. -/
namespace Go.Ab
open Go.ChangeShapes Go.WideShapes Go.ChangeAt Go.RowKit
/-! From what a row reads to what is known. -/
inductive TD where
  | b
  | i (k : IntKind)
  | s
  | sl (e : TD)
  | st (fs : List TD)
  | ar (n : Nat) (e : TD)
  deriving Inhabited
def tdFields (P : Program) (rec : TypeId → Option TD) : Nat → List Field → Option (List TD)
  | _, [] => some []
  | n, f :: r => match rec f.type with
    | some td => if f.offset = n then (tdFields P rec (n + P.cellsOf f.type) r).map (td :: ·) else none
    | none => none
def tdOf (P : Program) : Nat → TypeId → Option TD
  | 0, _ => none
  | d + 1, t => match P.underlying t with
    | some .bool => some .b
    | some (.int k) => some (.i k)
    | some .string => some .s
    | some (.slice e) => if 0 < P.cellsOf e then (tdOf P d e).map .sl else none
    | some (.struct fs) => match tdFields P (tdOf P d) 0 fs.toList with
      | some l => if (fs.toList.map fun f => P.cellsOf f.type).sum = P.cellsOf t then some (.st l) else none
      | none => none
    | some (.array n e) => if n * P.cellsOf e = P.cellsOf t then (tdOf P d e).map (.ar n) else none
    | _ => none
inductive Dat : TD → List AV → Prop
  | b (x : Bool) : Dat .b [.bool x]
  | i (k : IntKind) (n : Int) (h : k.min ≤ n ∧ n ≤ k.max) : Dat (.i k) [.int k n]
  | s (x : ByteArray) (h : x.size ≤ maxLen) : Dat .s [.str x]
  | sl (e : TD) (ls : List (List AV)) (hl : ls.length ≤ maxLen) (h : ∀ l ∈ ls, Dat e l) : Dat (.sl e) [.ro ls.flatten ls.length]
  | st (fs : List TD) (ls : List (List AV)) (hl : ls.length = fs.length) (h : ∀ (j : Nat) f l, fs[j]? = some f → ls[j]? = some l → Dat f l) : Dat (.st fs) ls.flatten
  | ar (n : Nat) (e : TD) (ls : List (List AV)) (hl : ls.length = n) (h : ∀ l ∈ ls, Dat e l) : Dat (.ar n e) ls.flatten
def NoO : Nat → Prop := fun _ => False
section
variable {P : Program} {w : World} {H : Type} {enc : TypeId × Value → H} {base : Nat} {spare : Nat → Bool} {held : Bool}
theorem mapM_some {α β : Type} {f : α → Option β} {l : List α} {m : List β} (h : l.mapM f = some m) : l.length = m.length ∧ ∀ (i : Nat) x, l[i]? = some x → ∃ y, m[i]? = some y ∧ f x = some y := mapM_get h
theorem RepL.flatten {O : Nat → Prop} : ∀ (asz : List (List AV)) (vs : List (List Value)), asz.length = vs.length → (∀ (i : Nat) a v, asz[i]? = some a → vs[i]? = some v → RepL w O a v) → RepL w O asz.flatten vs.flatten := by
  intro asz
  induction asz with
  | nil => intro vs hl _; cases vs with
    | nil => exact .nil
    | cons _ _ => simp at hl
  | cons a r ih =>
    intro vs hl h
    cases vs with
    | nil => simp at hl
    | cons v s =>
      simp only [List.flatten_cons]
      exact (h 0 a v rfl rfl).append (ih s (by simpa using hl) fun i a v h1 h2 => h (i + 1) a v (by simpa using h1) (by simpa using h2))
theorem split_cells (n z : Nat) (cs : List Value) (h : cs.length = n * z) : ((List.range n).map fun i => (cs.drop (i * z)).take z).flatten = cs := by
  induction n generalizing cs with
  | zero => simp at h; subst h; simp
  | succ n ih =>
    rw [List.range_succ_eq_map, List.map_cons, List.map_map, List.flatten_cons]
    have hd : (cs.drop z).length = n * z := by simp [h, Nat.succ_mul]
    have := ih (cs.drop z) hd
    have hf : ((fun i => (cs.drop (i * z)).take z) ∘ Nat.succ) = fun i => ((cs.drop z).drop (i * z)).take z := by
      funext i
      simp [List.drop_drop, Nat.succ_mul, Nat.add_comm]
    rw [hf, this]
    simp
theorem split_fields : ∀ (fs : List Field) (n : Nat) (cs : List Value), (∀ (j : Nat) f, fs[j]? = some f → f.offset = n + ((fs.take j).map fun f => P.cellsOf f.type).sum) → cs.length = n + (fs.map fun f => P.cellsOf f.type).sum →
    (fs.map fun f => (cs.drop f.offset).take (P.cellsOf f.type)).flatten = cs.drop n := by
  intro fs
  induction fs with
  | nil => intro n cs _ hl; simp at hl; simp [← hl]
  | cons f r ih =>
    intro n cs ho hl
    have h0 := ho 0 f rfl
    simp at h0
    simp only [List.map_cons, List.sum_cons] at hl
    have := ih (n + P.cellsOf f.type) cs (fun j g hg => by
      have := ho (j + 1) g (by simpa using hg)
      simp only [List.take_succ_cons, List.map_cons, List.sum_cons] at this
      omega) (by omega)
    rw [List.map_cons, List.flatten_cons, this, h0, ← List.drop_drop, List.take_append_drop]
theorem tdFields_get {rec : TypeId → Option TD} : ∀ (fs : List Field) (n : Nat) (l : List TD), tdFields P rec n fs = some l →
    l.length = fs.length ∧ (∀ (j : Nat) f, fs[j]? = some f → f.offset = n + ((fs.take j).map fun f => P.cellsOf f.type).sum ∧ ∃ td, l[j]? = some td ∧ rec f.type = some td) := by
  intro fs
  induction fs with
  | nil => intro n l h; simp [tdFields] at h; subst h; exact ⟨rfl, fun j f h => by simp at h⟩
  | cons f r ih =>
    intro n l h
    simp only [tdFields] at h
    split at h
    · rename_i td htd
      split at h
      · rename_i ho
        obtain ⟨m, hm, rfl⟩ := Option.map_eq_some_iff.1 h
        obtain ⟨i1, i2⟩ := ih _ _ hm
        refine ⟨by simp [i1], fun j g hg => ?_⟩
        cases j with
        | zero => simp at hg; subst hg; exact ⟨by simp [ho], td, rfl, htd⟩
        | succ j =>
          obtain ⟨k1, k2⟩ := i2 j g (by simpa using hg)
          refine ⟨by rw [k1]; simp; omega, ?_⟩
          simpa using k2
      · cases h
    · cases h
theorem cells_at {a : Addr} {n : Nat} {cs : List Value} (h : w.cells? base a n = some cs) : cs.length = n ∧ ∀ i v, cs[i]? = some v → w.cell? (a.add i) = some v := by
  unfold World.cells? at h
  split at h
  · obtain ⟨h1, h2⟩ := mapM_some h
    simp at h1
    refine ⟨h1.symm, fun i v hv => ?_⟩
    have hlt : i < n := by rw [h1]; exact (List.getElem?_eq_some_iff.1 hv).1
    obtain ⟨y, hy, hy'⟩ := h2 i i (by simp [hlt])
    rw [hy] at hv
    cases hv
    exact hy'
  · cases h
theorem dat_of : ∀ (fuel : Nat) (t : TypeId) (cs : List Value) (x : DataW H × List MemPlace), DataW.trod enc P w base spare held fuel t cs = some x → ∀ (d : Nat) (td : TD), tdOf P d t = some td →
    ∃ avs, Dat td avs ∧ RepL w NoO avs cs ∧ (∀ c ∈ cs, c.oneCell' = true) := by
  intro fuel
  induction fuel with
  | zero => intro t cs x h; simp [DataW.trod] at h
  | succ fuel ih =>
    intro t cs x h d td htd
    cases d with
    | zero => simp [tdOf] at htd
    | succ d =>
      cases hu : P.underlying t with
      | none => simp [tdOf, hu] at htd
      | some u =>
        cases u <;> simp only [tdOf, hu] at htd <;> (try (simp at htd; done))
        case bool =>
          cases htd
          simp only [DataW.trod, hu] at h
          split at h <;> (try (cases h; done)) <;> rename_i h1 <;> (try (cases h1; done))
          exact ⟨_, .b _, RepL.nil.cons (.bool _), by simp [Value.oneCell']⟩
        case int k =>
          cases htd
          simp only [DataW.trod, hu] at h
          split at h <;> (try (cases h; done)) <;> rename_i h1 <;> (try (cases h1; done))
          cases h1
          split at h
          · rename_i hk
            obtain ⟨rfl, hk2⟩ := hk
            simp [Lit.wf] at hk2
            exact ⟨_, .i _ _ hk2, RepL.nil.cons (.int _ _), by simp [Value.oneCell']⟩
          · cases h
        case string =>
          cases htd
          simp only [DataW.trod, hu] at h
          split at h <;> (try (cases h; done)) <;> rename_i h1 <;> (try (cases h1; done))
          split at h
          · rename_i hl
            exact ⟨_, .s _ hl, RepL.nil.cons (.str _), by simp [Value.oneCell']⟩
          · cases h
        case slice e =>
          split at htd
          · rename_i hz
            obtain ⟨te, hte, rfl⟩ := Option.map_eq_some_iff.1 htd
            simp only [DataW.trod, hu] at h
            split at h <;> (try (cases h; done)) <;> rename_i h1 <;> (try (cases h1; done))
            · exact ⟨_, .sl te [] (by simp) (by simp), RepL.nil.cons (.roe none 0), by simp [Value.oneCell']⟩
            · rename_i a len cap
              cases h1
              split at h
              · rename_i hc
                simp only [Option.bind_eq_some_iff] at h
                obtain ⟨elems, hel, hx2⟩ := h
                obtain ⟨e1, e2⟩ := mapM_some hel
                simp at e1
                -- the elements, one by one
                have key : ∀ i, i < len → ∃ (cs : List Value) (avs : List AV), w.cells? base (a.add (i * P.cellsOf e)) (P.cellsOf e) = some cs ∧ Dat te avs ∧ RepL w NoO avs cs ∧ (∀ c ∈ cs, c.oneCell' = true) := by
                  intro i hi
                  obtain ⟨y, _, hy⟩ := e2 i i (by simp [hi])
                  simp only [Option.bind_eq_some_iff] at hy
                  obtain ⟨cs, h1, h2⟩ := hy
                  obtain ⟨avs, h3, h4, h5⟩ := ih e cs y h2 d te hte
                  exact ⟨cs, avs, h1, h3, h4, h5⟩
                have kall : ∃ ls : List (List AV), ls.length = len ∧ ∀ (i : Nat) l, ls[i]? = some l → ∃ cs, w.cells? base (a.add (i * P.cellsOf e)) (P.cellsOf e) = some cs ∧ Dat te l ∧ RepL w NoO l cs ∧ (∀ c ∈ cs, c.oneCell' = true) := by
                  clear e1 e2 hel hc hx2
                  induction len with
                  | zero => exact ⟨[], rfl, fun i l h => by simp at h⟩
                  | succ n ihn =>
                    obtain ⟨ls, l1, l2⟩ := ihn fun i hi => key i (by omega)
                    obtain ⟨cs, avs, k1, k2, k3, k4⟩ := key n (by omega)
                    refine ⟨ls ++ [avs], by simp [l1], fun i l hl => ?_⟩
                    by_cases hi : i < ls.length
                    · rw [List.getElem?_append_left hi] at hl
                      exact l2 i l hl
                    · rw [List.getElem?_append_right (by omega)] at hl
                      have : i = n := by
                        have := (List.getElem?_eq_some_iff.1 hl).1
                        simp at this; omega
                      subst this
                      rw [l1] at hl
                      simp at hl
                      subst hl
                      exact ⟨cs, k1, k2, k3, k4⟩
                obtain ⟨ls, l1, l2⟩ := kall
                have hdat : Dat (.sl te) [.ro ls.flatten ls.length] := .sl te ls (by omega) fun l hl => by
                  obtain ⟨i, hi⟩ := List.mem_iff_getElem?.1 hl
                  obtain ⟨cs, _, k2, _⟩ := l2 i l hi
                  exact k2
                refine ⟨_, hdat, RepL.nil.cons ?_, by simp [Value.oneCell']⟩
                rw [l1]
                by_cases h0 : len = 0
                · subst h0
                  rw [List.eq_nil_of_length_eq_zero l1]
                  exact .roe _ _
                · -- the row
                  have hspot : a.spot = none := by
                    obtain ⟨cs, avs, k1, k2, k3, k4⟩ := key 0 (by omega)
                    obtain ⟨q1, q2⟩ := cells_at k1
                    have hc0 := q2 0 _ (List.getElem?_eq_getElem (by omega))
                    simp only [Nat.zero_mul] at hc0
                    have : (a.add 0).add 0 = a := by simp [Addr.add]
                    rw [this] at hc0
                    exact World.cell?_spot hc0
                  obtain ⟨b, o, sp⟩ := a
                  simp only at hspot
                  subst hspot
                  have hlens : ∀ (i : Nat) l, ls[i]? = some l → l.length = P.cellsOf e := by
                    intro i l hl
                    obtain ⟨cs, k1, _, k3, _⟩ := l2 i l hl
                    rw [k3.1]; exact (cells_at k1).1
                  have hcell : ∀ (j : Nat) v, ls.flatten[j]? = some v → ∃ c, w.cell? ⟨b, o + j, none⟩ = some c ∧ c.oneCell' = true ∧ Rep w NoO v c := by
                    have gen : ∀ (m : Nat) (ms : List (List AV)), (∀ (i : Nat) l, ms[i]? = some l → ls[m + i]? = some l) → ∀ (j : Nat) v, ms.flatten[j]? = some v → ∃ c, w.cell? ⟨b, o + (m * P.cellsOf e + j), none⟩ = some c ∧ c.oneCell' = true ∧ Rep w NoO v c := by
                      intro m ms
                      induction ms generalizing m with
                      | nil => intro _ j v hv; simp at hv
                      | cons l r ihr =>
                        intro hm j v hv
                        have hl := hm 0 l rfl
                        simp only [Nat.add_zero] at hl
                        obtain ⟨cs, k1, k2, k3, k4⟩ := l2 m l hl
                        obtain ⟨q1, q2⟩ := cells_at k1
                        have hll := hlens m l hl
                        rw [List.flatten_cons] at hv
                        by_cases hj : j < l.length
                        · rw [List.getElem?_append_left hj] at hv
                          have hcs : cs[j]? = some (cs[j]'(by omega)) := List.getElem?_eq_getElem _
                          have := q2 j _ hcs
                          rw [Addr.add_lit, Addr.add_lit] at this
                          exact ⟨_, by rw [← Nat.add_assoc]; exact this, k4 _ (List.getElem_mem _), k3.2 j v _ hv hcs⟩
                        · rw [List.getElem?_append_right (by omega)] at hv
                          obtain ⟨c, z1, z2, z3⟩ := ihr (m + 1) (fun i l hl => by
                            have := hm (i + 1) l (by simpa using hl)
                            rwa [show m + 1 + i = m + (i + 1) by omega]) (j - l.length) v hv
                          refine ⟨c, ?_, z2, z3⟩
                          rw [show m * P.cellsOf e + j = (m + 1) * P.cellsOf e + (j - l.length) by rw [Nat.succ_mul]; omega]
                          exact z1
                    intro j v hv
                    have := gen 0 ls (fun i l hl => by rwa [Nat.zero_add]) j v hv
                    simpa using this
                  have hb : b < w.heap.size := by
                    obtain ⟨cs, avs, k1, k2, k3, k4⟩ := key 0 (by omega)
                    obtain ⟨q1, q2⟩ := cells_at k1
                    have hc0 := q2 0 _ (List.getElem?_eq_getElem (by omega))
                    simp only [Nat.zero_mul, Addr.add_lit] at hc0
                    unfold World.cell? at hc0
                    cases hbb : w.heap[b]? with
                    | none => simp [hbb] at hc0
                    | some y => exact (Array.getElem?_eq_some_iff.1 hbb).1
                  refine .ro _ _ _ b o (fun j => (w.cell? ⟨b, o + j, none⟩).getD undef) hc.2.1 hb (fun h => h) (fun j v hv => ?_) (fun j v hv => ?_)
                  · obtain ⟨c, z1, z2, _⟩ := hcell j v hv
                    rw [z1]; exact ⟨rfl, z2⟩
                  · obtain ⟨c, z1, _, z3⟩ := hcell j v hv
                    rw [z1]; exact z3
              · cases h
          · cases htd
        case struct fs =>
          split at htd
          · rename_i l hl
            split at htd
            · rename_i hsum
              cases htd
              simp only [DataW.trod, hu] at h
              split at h
              · rename_i hlen
                obtain ⟨xs, hxs, _⟩ := Option.map_eq_some_iff.1 h
                obtain ⟨e1, e2⟩ := mapM_some hxs
                obtain ⟨f1, f2⟩ := tdFields_get fs.toList 0 l hl
                have key : ∀ (j : Nat) f, fs.toList[j]? = some f → ∃ td avs, l[j]? = some td ∧ Dat td avs ∧ RepL w NoO avs ((cs.drop f.offset).take (P.cellsOf f.type)) ∧ (∀ c ∈ (cs.drop f.offset).take (P.cellsOf f.type), c.oneCell' = true) := by
                  intro j f hf
                  obtain ⟨y, _, hy⟩ := e2 j f hf
                  obtain ⟨_, td, k1, k2⟩ := f2 j f hf
                  obtain ⟨avs, h3, h4, h5⟩ := ih f.type _ y hy d td k2
                  exact ⟨td, avs, k1, h3, h4, h5⟩
                have kall : ∃ ls : List (List AV), ls.length = fs.toList.length ∧ ∀ (j : Nat) f a, fs.toList[j]? = some f → ls[j]? = some a → ∃ td, l[j]? = some td ∧ Dat td a ∧ RepL w NoO a ((cs.drop f.offset).take (P.cellsOf f.type)) := by
                  clear e1 e2 hxs h f1 f2 hl hlen hsum
                  generalize fs.toList = F at key
                  induction F generalizing l with
                  | nil => exact ⟨[], rfl, fun j f a h => by simp at h⟩
                  | cons g r ihF =>
                    obtain ⟨td, avs, k1, k2, k3, _⟩ := key 0 g rfl
                    cases l with
                    | nil => simp at k1
                    | cons l0 lr =>
                      obtain ⟨ls, m1, m2⟩ := ihF lr fun j f hf => by
                        obtain ⟨td, avs, z1, z2⟩ := key (j + 1) f (by simpa using hf)
                        exact ⟨td, avs, by simpa using z1, z2⟩
                      refine ⟨avs :: ls, by simp [m1], fun j f a hf ha => ?_⟩
                      cases j with
                      | zero => simp at hf ha; subst hf; subst ha; exact ⟨td, k1, k2, k3⟩
                      | succ j =>
                        obtain ⟨td, z1, z2⟩ := m2 j f a (by simpa using hf) (by simpa using ha)
                        exact ⟨td, by simpa using z1, z2⟩
                obtain ⟨ls, m1, m2⟩ := kall
                have hsplit := split_fields (P := P) fs.toList 0 cs (fun j f hf => (f2 j f hf).1) (by rw [hlen, hsum]; simp)
                simp only [List.drop_zero] at hsplit
                have hrep : RepL w NoO ls.flatten cs := by
                  rw [← hsplit]
                  refine RepL.flatten _ _ (by simp [m1]) fun j a v ha hv => ?_
                  simp only [List.getElem?_map, Option.map_eq_some_iff] at hv
                  obtain ⟨f, hf, rfl⟩ := hv
                  obtain ⟨td, _, _, z3⟩ := m2 j f a hf ha
                  exact z3
                refine ⟨ls.flatten, .st l ls (by rw [m1, f1]) fun j td a htd ha => ?_, hrep, ?_⟩
                · have hlt : j < fs.toList.length := by rw [← m1]; exact (List.getElem?_eq_some_iff.1 ha).1
                  obtain ⟨td', z1, z2, _⟩ := m2 j _ a (List.getElem?_eq_getElem hlt) ha
                  rw [htd] at z1
                  cases z1
                  exact z2
                · intro c hc
                  rw [← hsplit] at hc
                  obtain ⟨m, hm, hcm⟩ := List.mem_flatten.1 hc
                  obtain ⟨f, hf, rfl⟩ := List.mem_map.1 hm
                  obtain ⟨j, hj⟩ := List.mem_iff_getElem?.1 hf
                  obtain ⟨_, _, _, _, _, k5⟩ := key j f hj
                  exact k5 c hcm
              · cases h
            · cases htd
          · cases htd
        case array n e =>
          split at htd
          · rename_i hsz
            obtain ⟨te, hte, rfl⟩ := Option.map_eq_some_iff.1 htd
            simp only [DataW.trod, hu] at h
            split at h
            · rename_i hlen
              obtain ⟨xs, hxs, _⟩ := Option.map_eq_some_iff.1 h
              obtain ⟨e1, e2⟩ := mapM_some hxs
              have key : ∀ i, i < n → ∃ avs, Dat te avs ∧ RepL w NoO avs ((cs.drop (i * P.cellsOf e)).take (P.cellsOf e)) ∧ (∀ c ∈ (cs.drop (i * P.cellsOf e)).take (P.cellsOf e), c.oneCell' = true) := by
                intro i hi
                obtain ⟨y, _, hy⟩ := e2 i i (by simp [hi])
                exact ih e _ y hy d te hte
              have kall : ∃ ls : List (List AV), ls.length = n ∧ ∀ (i : Nat) a, ls[i]? = some a → Dat te a ∧ RepL w NoO a ((cs.drop (i * P.cellsOf e)).take (P.cellsOf e)) := by
                clear e1 e2 hxs h hsz hlen htd hu
                induction n with
                | zero => exact ⟨[], rfl, fun i a h => by simp at h⟩
                | succ n ihn =>
                  obtain ⟨ls, l1, l2⟩ := ihn fun i hi => key i (by omega)
                  obtain ⟨avs, k1, k2, _⟩ := key n (by omega)
                  refine ⟨ls ++ [avs], by simp [l1], fun i a ha => ?_⟩
                  by_cases hi : i < ls.length
                  · rw [List.getElem?_append_left hi] at ha
                    exact l2 i a ha
                  · rw [List.getElem?_append_right (by omega)] at ha
                    have : i = n := by
                      have := (List.getElem?_eq_some_iff.1 ha).1
                      simp at this; omega
                    subst this
                    rw [l1] at ha
                    simp at ha
                    subst ha
                    exact ⟨k1, k2⟩
              obtain ⟨ls, l1, l2⟩ := kall
              have hsplit := split_cells n (P.cellsOf e) cs (by rw [hlen, hsz])
              have hrep : RepL w NoO ls.flatten cs := by
                rw [← hsplit]
                refine RepL.flatten _ _ (by simp [l1]) fun j a v ha hv => ?_
                have hlt : j < n := by rw [← l1]; exact (List.getElem?_eq_some_iff.1 ha).1
                simp only [List.getElem?_map, Option.map_eq_some_iff] at hv
                obtain ⟨i, hi, rfl⟩ := hv
                rw [List.getElem?_range hlt] at hi
                cases hi
                exact (l2 j a ha).2
              refine ⟨ls.flatten, .ar n te ls l1 fun a ha => ?_, hrep, ?_⟩
              · obtain ⟨i, hi⟩ := List.mem_iff_getElem?.1 ha
                exact (l2 i a hi).1
              · intro c hc
                rw [← hsplit] at hc
                obtain ⟨m, hm, hcm⟩ := List.mem_flatten.1 hc
                obtain ⟨i, hi, rfl⟩ := List.mem_map.1 hm
                obtain ⟨_, _, _, k5⟩ := key i (by simpa using hi)
                exact k5 c hcm
            · cases h
          · cases htd
def argOf (td : TD) (avs : List AV) : AV :=
  match td with
  | .st _ | .ar _ _ => .agg avs
  | _ => avs.headD .any
theorem arg_of {r : Go.Reach} {b0 : Nat} {t : TypeId} {v : Value} {x : DataW H} {ps : List MemPlace} (hv : Value.okWide P w r b0 t v) (h : DataW.Trod enc P w base spare held t v x ps) {d : Nat} {td : TD} (htd : tdOf P d t = some td) :
    ∃ avs, Dat td avs ∧ Rep w NoO (argOf td avs) v := by
  obtain ⟨fuel, hf⟩ := h
  obtain ⟨avs, h1, h2, h3⟩ := dat_of fuel t _ _ hf d td htd
  refine ⟨avs, h1, ?_⟩
  have one : (∃ a, avs = [a]) → v.cells.toList = [v] → (match td with | .st _ | .ar _ _ => False | _ => True) → Rep w NoO (argOf td avs) v := by
    rintro ⟨a, rfl⟩ hc ht
    rw [hc] at h2
    have hr := h2.2 0 a v rfl rfl
    cases td <;> first | exact hr | exact ht.elim
  have agg : (∃ cs, v = .agg cs) → argOf td avs = .agg avs → Rep w NoO (argOf td avs) v := by
    rintro ⟨cs, rfl⟩ he
    rw [he]
    have := h2.agg h3
    simpa [Value.cells] using this
  cases d with
  | zero => simp [tdOf] at htd
  | succ d =>
    cases hu : P.underlying t with
    | none => simp [tdOf, hu] at htd
    | some u =>
      cases u <;> simp only [tdOf, hu] at htd <;> (try (simp at htd; done))
      case bool =>
        cases htd
        simp only [Value.okWide, hu, Cell.okWide] at hv
        cases h1
        refine one ⟨_, rfl⟩ ?_ trivial
        cases v <;> simp_all [Cell.ok, Value.cells]
      case int k =>
        cases htd
        obtain ⟨n, rfl⟩ := okWide_int hu hv
        cases h1
        exact one ⟨_, rfl⟩ rfl trivial
      case string =>
        cases htd
        obtain ⟨n, rfl⟩ := okWide_string hu hv
        cases h1
        exact one ⟨_, rfl⟩ rfl trivial
      case slice e =>
        split at htd
        · obtain ⟨te, _, rfl⟩ := Option.map_eq_some_iff.1 htd
          obtain ⟨a, len, cap, rfl⟩ := okWide_slice hu hv
          cases h1
          exact one ⟨_, rfl⟩ rfl trivial
        · cases htd
      case struct fs =>
        split at htd
        · split at htd
          · cases htd
            simp only [Value.okWide, hu] at hv
            obtain ⟨cs, hc, _⟩ := hv
            exact agg ⟨cs, hc⟩ rfl
          · cases htd
        · cases htd
      case array n e =>
        split at htd
        · obtain ⟨te, _, rfl⟩ := Option.map_eq_some_iff.1 htd
          simp only [Value.okWide, hu] at hv
          obtain ⟨cs, hc, _⟩ := hv
          exact agg ⟨cs, hc⟩ rfl
        · cases htd
def noG : Glo := .of fun _ => .any
theorem law_calls {f : FuncId} {args : List AV} {vs : List Value} (hs : Spec P noG f args noH (fun r _ => r = .bool true)) (hr : RepL w NoO args vs) :
    Calls P f vs.toArray w fun e w' => e = .returned (.bool true) ∧ Below w.heap.size w w' := by
  refine (hs w vs (fun b x h => by cases h) ⟨fun g => .any _, fun _ _ e => e.elim⟩ (by rw [noH_dom]; exact hr)).mono ?_
  rintro e w' ⟨v, r, h', rfl, rfl, _, h3, h4⟩
  refine ⟨by rw [rep_bool h3], ⟨h4.os, h4.tape, h4.out, h4.size, fun k hk => (h4.blk k hk rfl).2⟩⟩
end
end Go.Ab
end
section
/- What is known of data of a given type. -/
set_option linter.unusedVariables false
namespace Go.Ab
theorem dat_i {k : IntKind} {l : List AV} (h : Dat (.i k) l) : ∃ n, l = [.int k n] ∧ k.min ≤ n ∧ n ≤ k.max := by
  cases h with
  | i k n h => exact ⟨n, rfl, h⟩
theorem dat_list {α : Type} {e : TD} (f : α → List AV) (ok : α → Prop) (one : ∀ l, Dat e l → ∃ x, ok x ∧ l = f x) : ∀ (ls : List (List AV)), (∀ l ∈ ls, Dat e l) →
    ∃ xs : List α, xs.length = ls.length ∧ ls.flatten = xs.flatMap f ∧ ∀ x ∈ xs, ok x := by
  intro ls
  induction ls with
  | nil => intro _; exact ⟨[], rfl, rfl, fun x h => by cases h⟩
  | cons l r ih =>
    intro h
    obtain ⟨x, hx, rfl⟩ := one l (h l (by simp))
    obtain ⟨xs, h1, h2, h3⟩ := ih fun l hl => h l (by simp [hl])
    refine ⟨x :: xs, by simp [h1], by simp [h2], fun y hy => ?_⟩
    rcases List.mem_cons.1 hy with rfl | hy
    · exact hx
    · exact h3 y hy
theorem dat_st {fs : List TD} {l : List AV} (h : Dat (.st fs) l) : ∃ ls : List (List AV), ls.length = fs.length ∧ l = ls.flatten ∧ ∀ (j : Nat) f l, fs[j]? = some f → ls[j]? = some l → Dat f l := by
  cases h with
  | st fs ls hl h => exact ⟨ls, hl, rfl, h⟩
theorem dat_st_nil {l : List AV} (h : Dat (.st []) l) : l = [] := by
  obtain ⟨ls, h1, rfl, _⟩ := dat_st h
  rw [List.eq_nil_of_length_eq_zero h1]; rfl
theorem dat_st_cons {f : TD} {fs : List TD} {l : List AV} (h : Dat (.st (f :: fs)) l) : ∃ a b, l = a ++ b ∧ Dat f a ∧ Dat (.st fs) b := by
  obtain ⟨ls, h1, rfl, h2⟩ := dat_st h
  cases ls with
  | nil => simp at h1
  | cons a r => exact ⟨a, r.flatten, rfl, h2 0 f a rfl rfl, .st fs r (by simpa using h1) fun j f l x y => h2 (j + 1) f l (by simpa using x) (by simpa using y)⟩
theorem dat_u8 {l : List AV} (h : Dat (.i .u8) l) : ∃ x : BitVec 8, l = [.int .u8 (x.toNat : Int)] := by
  obtain ⟨n, rfl, h1, h2⟩ := dat_i h
  simp [IntKind.min, IntKind.max, IntKind.signed, IntKind.bits] at h1 h2
  refine ⟨BitVec.ofNat 8 n.toNat, ?_⟩
  rw [BitVec.toNat_ofNat, Nat.mod_eq_of_lt (by omega), Int.toNat_of_nonneg h1]
theorem dat_u16 {l : List AV} (h : Dat (.i .u16) l) : ∃ x : BitVec 16, l = [.int .u16 (x.toNat : Int)] := by
  obtain ⟨n, rfl, h1, h2⟩ := dat_i h
  simp [IntKind.min, IntKind.max, IntKind.signed, IntKind.bits] at h1 h2
  refine ⟨BitVec.ofNat 16 n.toNat, ?_⟩
  rw [BitVec.toNat_ofNat, Nat.mod_eq_of_lt (by omega), Int.toNat_of_nonneg h1]
theorem dat_u32 {l : List AV} (h : Dat (.i .u32) l) : ∃ x : BitVec 32, l = [.int .u32 (x.toNat : Int)] := by
  obtain ⟨n, rfl, h1, h2⟩ := dat_i h
  simp [IntKind.min, IntKind.max, IntKind.signed, IntKind.bits] at h1 h2
  refine ⟨BitVec.ofNat 32 n.toNat, ?_⟩
  rw [BitVec.toNat_ofNat, Nat.mod_eq_of_lt (by omega), Int.toNat_of_nonneg h1]
theorem dat_i64 {l : List AV} (h : Dat (.i .i64) l) : ∃ n : Int, l = [.int .i64 n] ∧ -9223372036854775808 ≤ n ∧ n ≤ 9223372036854775807 := by
  obtain ⟨n, rfl, h1, h2⟩ := dat_i h
  simp [IntKind.min, IntKind.max, IntKind.signed, IntKind.bits] at h1 h2
  exact ⟨n, rfl, h1, h2⟩
theorem flatMap_one {α : Type} (f : α → AV) (l : List α) : (l.flatMap fun x => [f x]) = l.map f := by
  induction l with
  | nil => rfl
  | cons a r ih => simp [ih]
theorem dat_bytes {l : List AV} (h : Dat (.sl (.i .u8)) l) : ∃ xs : List (BitVec 8), xs.length ≤ maxLen ∧ l = [byt xs] := by
  cases h with
  | sl e ls hl h =>
    obtain ⟨xs, h1, h2, _⟩ := dat_list (fun x : BitVec 8 => [AV.int .u8 (x.toNat : Int)]) (fun _ => True) (fun l hl => by obtain ⟨x, rfl⟩ := dat_u8 hl; exact ⟨x, trivial, rfl⟩) ls h
    rw [flatMap_one] at h2
    exact ⟨xs, by omega, by rw [h2, ← h1]; rfl⟩
theorem dat_words {l : List AV} (h : Dat (.sl (.i .u32)) l) : ∃ xs : List (BitVec 32), xs.length ≤ maxLen ∧ l = [.ro (wds xs) xs.length] := by
  cases h with
  | sl e ls hl h =>
    obtain ⟨xs, h1, h2, _⟩ := dat_list (fun x : BitVec 32 => [AV.int .u32 (x.toNat : Int)]) (fun _ => True) (fun l hl => by obtain ⟨x, rfl⟩ := dat_u32 hl; exact ⟨x, trivial, rfl⟩) ls h
    rw [flatMap_one] at h2
    exact ⟨xs, by omega, by rw [h2, ← h1]; rfl⟩
theorem dat_ar32 {n : Nat} {l : List AV} (h : Dat (.ar n (.i .u32)) l) : ∃ xs : List (BitVec 32), xs.length = n ∧ l = wds xs := by
  cases h with
  | ar n e ls hl h =>
    obtain ⟨xs, h1, h2, _⟩ := dat_list (fun x : BitVec 32 => [AV.int .u32 (x.toNat : Int)]) (fun _ => True) (fun l hl => by obtain ⟨x, rfl⟩ := dat_u32 hl; exact ⟨x, trivial, rfl⟩) ls h
    rw [flatMap_one] at h2
    exact ⟨xs, by omega, h2⟩
theorem dat_sl {α : Type} {e : TD} (f : α → List AV) (ok : α → Prop) (one : ∀ l, Dat e l → ∃ x, ok x ∧ l = f x) {l : List AV} (h : Dat (.sl e) l) : ∃ xs : List α, (∀ x ∈ xs, ok x) ∧ xs.length ≤ maxLen ∧ l = [.ro (xs.flatMap f) xs.length] := by
  cases h with
  | sl e ls hl h =>
    obtain ⟨xs, h1, h2, h3⟩ := dat_list f ok one ls h
    exact ⟨xs, h3, by omega, by rw [h2, ← h1]⟩
end Go.Ab
end
section
/- What is known of blocks that come in. -/
set_option linter.unusedVariables false
namespace Go.Ab
def tdOp : TD := .st [.i .i64, .i .i64, .i .i64, .i .u32, .i .i64, .i .i64]
def tdVl : TD := .st [.i .i64, .i .i64]
def tdEx : TD := .st [.i .i64, .i .u32, .i .i64, .i .i64, .sl tdVl]
def tdBk : TD := .st [.sl (.i .u32), .sl tdOp, .sl tdEx, .i .i64]
theorem dat_op {l : List AV} (h : Dat tdOp l) : ∃ o : IOp, True ∧ l = o.cells := by
  obtain ⟨_, _, rfl, h1, h⟩ := dat_st_cons h
  obtain ⟨_, _, rfl, h2, h⟩ := dat_st_cons h
  obtain ⟨_, _, rfl, h3, h⟩ := dat_st_cons h
  obtain ⟨_, _, rfl, h4, h⟩ := dat_st_cons h
  obtain ⟨_, _, rfl, h5, h⟩ := dat_st_cons h
  obtain ⟨_, _, rfl, h6, h⟩ := dat_st_cons h
  obtain rfl := dat_st_nil h
  obtain ⟨a, rfl, _⟩ := dat_i64 h1
  obtain ⟨b, rfl, _⟩ := dat_i64 h2
  obtain ⟨c, rfl, _⟩ := dat_i64 h3
  obtain ⟨d, rfl⟩ := dat_u32 h4
  obtain ⟨e, rfl, _⟩ := dat_i64 h5
  obtain ⟨f, rfl, _⟩ := dat_i64 h6
  exact ⟨⟨a, b, c, d, e, f⟩, trivial, rfl⟩
theorem dat_vl {l : List AV} (h : Dat tdVl l) : ∃ v : IVl, True ∧ l = v.cells := by
  obtain ⟨_, _, rfl, h1, h⟩ := dat_st_cons h
  obtain ⟨_, _, rfl, h2, h⟩ := dat_st_cons h
  obtain rfl := dat_st_nil h
  obtain ⟨a, rfl, _⟩ := dat_i64 h1
  obtain ⟨b, rfl, _⟩ := dat_i64 h2
  exact ⟨⟨a, b⟩, trivial, rfl⟩
theorem dat_ex {l : List AV} (h : Dat tdEx l) : ∃ e : IEx, True ∧ l = e.cells := by
  obtain ⟨_, _, rfl, h1, h⟩ := dat_st_cons h
  obtain ⟨_, _, rfl, h2, h⟩ := dat_st_cons h
  obtain ⟨_, _, rfl, h3, h⟩ := dat_st_cons h
  obtain ⟨_, _, rfl, h4, h⟩ := dat_st_cons h
  obtain ⟨_, _, rfl, h5, h⟩ := dat_st_cons h
  obtain rfl := dat_st_nil h
  obtain ⟨a, rfl, _⟩ := dat_i64 h1
  obtain ⟨b, rfl⟩ := dat_u32 h2
  obtain ⟨c, rfl, _⟩ := dat_i64 h3
  obtain ⟨d, rfl, _⟩ := dat_i64 h4
  obtain ⟨m, _, _, rfl⟩ := dat_sl IVl.cells (fun _ => True) (fun l => dat_vl) h5
  exact ⟨⟨a, b, c, d, m⟩, trivial, rfl⟩
theorem dat_bk {l : List AV} (h : Dat tdBk l) : ∃ b : IBk, b.exits.length ≤ maxLen ∧ l = b.cells := by
  obtain ⟨_, _, rfl, h1, h⟩ := dat_st_cons h
  obtain ⟨_, _, rfl, h2, h⟩ := dat_st_cons h
  obtain ⟨_, _, rfl, h3, h⟩ := dat_st_cons h
  obtain ⟨_, _, rfl, h4, h⟩ := dat_st_cons h
  obtain rfl := dat_st_nil h
  obtain ⟨p, _, rfl⟩ := dat_words h1
  obtain ⟨o, _, _, rfl⟩ := dat_sl IOp.cells (fun _ => True) (fun l => dat_op) h2
  obtain ⟨e, _, he, rfl⟩ := dat_sl IEx.cells (fun _ => True) (fun l => dat_ex) h3
  obtain ⟨a, rfl, _⟩ := dat_i64 h4
  exact ⟨⟨p, o, e, a⟩, he, rfl⟩
end Go.Ab
end
section
/- What is known of worlds that come in. -/
set_option linter.unusedVariables false
namespace Go.Ab
def tdWd : TD := .st [.ar 32 (.i .u32), .i .i64, .sl (.i .u8), .i .u16]
theorem dat_wd {l : List AV} (h : Dat tdWd l) : ∃ w : IWd, w.regs.length = 32 ∧ l = w.cells := by
  obtain ⟨_, _, rfl, h1, h⟩ := dat_st_cons h
  obtain ⟨_, _, rfl, h2, h⟩ := dat_st_cons h
  obtain ⟨_, _, rfl, h3, h⟩ := dat_st_cons h
  obtain ⟨_, _, rfl, h4, h⟩ := dat_st_cons h
  obtain rfl := dat_st_nil h
  obtain ⟨r, hr, rfl⟩ := dat_ar32 h1
  obtain ⟨s, rfl, _⟩ := dat_i64 h2
  obtain ⟨b, _, rfl⟩ := dat_bytes h3
  obtain ⟨w, rfl⟩ := dat_u16 h4
  exact ⟨⟨r, s, b, w⟩, hr, rfl⟩
end Go.Ab
end
section
/- The statement PassesSameSaid, from the contract of its function. -/
namespace Go.Proofs.YtfgooaploagiaaaGreat
open Go.ChangeShapes Go.WideShapes Go.ChangeAt Go.RowKit Go.Ab
set_option linter.unusedVariables false

theorem ownPassesSameSaid : ownKnob Tryz.prog.godebug = none := by kernel_rfl
theorem laidOutPassesSameSaid : laidOutB Tryz.prog = true := by kernel_rfl
theorem tdPassesSameSaid0 : tdOf Tryz.prog 8 26 = some (tdBk) := by kernel_rfl
theorem tdPassesSameSaid1 : tdOf Tryz.prog 8 3 = some (.i .i64) := by kernel_rfl
theorem tdPassesSameSaid2 : tdOf Tryz.prog 8 46 = some (tdWd) := by kernel_rfl
set_option maxRecDepth 100000 in
theorem liftedPassesSameSaid (os : Os) (started : os.Started) (H : Type) (enc : TypeId × Value → H) :
    ReturnsInHanded {} Tryz.checked os 4 .any (Rows.passesSameSpec.pre6 enc Tryz.prog Tryz.f4 Rows.passesSameRow.domain false) (Rows.passesSameSpec.post enc Tryz.prog Tryz.f4 false true false false) := by
  refine returnsInHanded_of_change (C := Tryz.checked) ownPassesSameSaid started (by kernel_rfl) Tryz.func4
    (ChangeSpec.witness6 (enc := enc) (C := Tryz.checked) false ⟨#[], #[.agg #[.slice none 0 0, .slice none 0 0, .slice none 0 0, .int .i64 0], .int .i64 0, .agg #[.int .u32 0, .int .u32 0, .int .u32 0, .int .u32 0, .int .u32 0, .int .u32 0, .int .u32 0, .int .u32 0, .int .u32 0, .int .u32 0, .int .u32 0, .int .u32 0, .int .u32 0, .int .u32 0, .int .u32 0, .int .u32 0, .int .u32 0, .int .u32 0, .int .u32 0, .int .u32 0, .int .u32 0, .int .u32 0, .int .u32 0, .int .u32 0, .int .u32 0, .int .u32 0, .int .u32 0, .int .u32 0, .int .u32 0, .int .u32 0, .int .u32 0, .int .u32 0, .int .i64 0, .slice none 0 0, .int .u16 0]], []⟩ 8 (by kernel_rfl) (by kernel_rfl) (by kernel_rfl) (by kernel_rfl)) ?_
  intro W base args ds gs before hval0 hW hcnd _
  have hval : ∀ (j : Nat) t v, Tryz.f4.params[j]? = some t → args[j]? = some v → Value.okWide Tryz.prog W .any base t v := hval0
  have hW' := hW
  obtain ⟨p, q, hA0, hV, rfl, hfz, hnd⟩ := hW
  have hA : DataW.TrodAll enc Tryz.prog W 0 (fun _ => true) true Tryz.f4.params.toList args.toList ds p := hA0
  rw [Tryz.params4] at hA hval
  obtain ⟨v0, vs0, d0, ds0, p0, q0, hargs, rfl, rfl, h0, r0⟩ := trodAll_cons hA
  obtain ⟨v1, vs1, d1, ds1, p1, q1, rfl, rfl, rfl, h1, r1⟩ := trodAll_cons r0
  obtain ⟨v2, vs2, d2, ds2, p2, q2, rfl, rfl, rfl, h2, r2⟩ := trodAll_cons r1
  obtain ⟨rfl, rfl, rfl⟩ := trodAll_nil r2
  obtain rfl : args = #[v0, v1, v2] := by cases args; simp_all
  obtain ⟨rfl, rfl⟩ := trodVars_none hV
  have k0 := h0
  have lt0 : ∀ x ∈ p0, x.block < W.heap.size := by obtain ⟨m, hm⟩ := k0; exact DataW.trod_lt m _ _ _ hm
  obtain ⟨av0, dt0, rp0⟩ := arg_of (hval 0 26 v0 rfl rfl) h0 tdPassesSameSaid0
  obtain ⟨x0, hx0, rfl⟩ := dat_bk dt0
  have k1 := h1
  have lt1 : ∀ x ∈ p1, x.block < W.heap.size := by obtain ⟨m, hm⟩ := k1; exact DataW.trod_lt m _ _ _ hm
  obtain ⟨av1, dt1, rp1⟩ := arg_of (hval 1 3 v1 rfl rfl) h1 tdPassesSameSaid1
  obtain ⟨x1, rfl, _⟩ := dat_i64 dt1
  have k2 := h2
  have lt2 : ∀ x ∈ p2, x.block < W.heap.size := by obtain ⟨m, hm⟩ := k2; exact DataW.trod_lt m _ _ _ hm
  obtain ⟨av2, dt2, rp2⟩ := arg_of (hval 2 46 v2 rfl rfl) h2 tdPassesSameSaid2
  obtain ⟨x2, hx2, rfl⟩ := dat_wd dt2
  clear hA0 hval0
  refine (law_calls ((lawPSame_spec x0 x1 x2 (by have := hx0; unfold maxLen at this; exact this) hx2).mono fun r _ e => e.1) (((RepL.nil.cons rp2).cons rp1).cons rp0)).mono fun e W' ⟨he, bel⟩ => ?_
  subst he
  exact ⟨_, rfl, _, _, _, [], _, [], hW', trodAll_mk1 (shut_bool Tryz.underlying4 _), (trodAll_cons_mk (Below.trod laidOutPassesSameSaid (by kernel_rfl) (of_decide_eq_true (by kernel_rfl)) k0 bel lt0) (trodAll_cons_mk (Below.trod laidOutPassesSameSaid (by kernel_rfl) (of_decide_eq_true (by kernel_rfl)) k1 bel lt1) (trodAll_cons_mk (Below.trod laidOutPassesSameSaid (by kernel_rfl) (of_decide_eq_true (by kernel_rfl)) k2 bel lt2) trodAll_mk0))), rfl, bel.frame _, fun h => by cases h⟩
theorem overPassesSameSaid : Rows.passesSameRow.holds Tryz.pinned (OpenSpec.ofChange Rows.passesSameSpec) :=
  OpenClaim.holds_of_wide 4 Tryz.f4 rfl rfl rfl rfl rfl rfl rfl ⟨rfl, rfl, rfl, rfl, rfl⟩ rfl rfl rfl rfl rfl (by kernel_rfl) Tryz.func4 (by kernel_rfl)
    (of_decide_eq_true (by kernel_rfl)) (by unfold Func.isWrapper; first | (rw [if_pos (by decide +kernel)]; kernel_rfl) | (rw [if_neg (by decide +kernel)]; exact ⟨rfl, rfl⟩))
    (fun os started H enc _ => liftedPassesSameSaid os started H enc)
theorem provedPassesSameSaid : Rows.PassesSameSaid := overPassesSameSaid
end Go.Proofs.YtfgooaploagiaaaGreat
end
