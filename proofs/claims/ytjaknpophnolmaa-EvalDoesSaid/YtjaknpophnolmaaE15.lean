/- The law of what is kept. -/
import Derived.Test.YtjaknpophnolmaaE14
set_option linter.unusedSimpArgs false
set_option linter.unusedVariables false
set_option maxRecDepth 10000
namespace Go.Ab
open Go.Proofs
variable {G : Glo} {h : Heap}
theorem cells_wds (ks : List CK) (r s : List AV) : ∀ (xs ys : List (BitVec 32)), xs.length = ys.length → cellsEq (List.replicate xs.length .i ++ ks) (wds xs ++ r) (wds ys ++ s) = (cellsEq ks r s).map fun t => decide (xs = ys) && t := by
  intro xs
  induction xs with
  | nil =>
    intro ys hl
    obtain rfl : ys = [] := List.length_eq_zero_iff.1 hl.symm
    simp [wds]
  | cons x xs ih =>
    intro ys hl
    cases ys with
    | nil => simp at hl
    | cons y ys =>
      have := ih ys (by simpa using hl)
      simp only [wds, List.map_cons, List.cons_append, List.length_cons, List.replicate_succ, cellsEq] at this ⊢
      rw [if_pos trivial, this]
      cases cellsEq ks r s with
      | none => rfl
      | some t =>
        simp only [Option.map_some, beq_toNat, List.cons.injEq]
        congr 1
        rw [Bool.eq_iff_iff]
        simp [and_assoc]
theorem oc_eq {r1 r2 : List (BitVec 32)} (h1 : r1.length = 32) (h2 : r2.length = 32) {pc pc' : BitVec 32} {d d' y y' e e' : Int} (neg : Bool) : aeq neg [.i, .i, .i, .i, .i, .i, .i, .i, .i, .i, .i, .i, .i, .i, .i, .i, .i, .i, .i, .i, .i, .i, .i, .i, .i, .i, .i, .i, .i, .i, .i, .i, .i, .i, .i, .i] (.agg (outC r1 pc d y e)) (.agg (outC r2 pc' d' y' e')) =
    some (.bool (decide (r1 = r2 ∧ pc = pc' ∧ d = d' ∧ y = y' ∧ e = e') != neg)) := by
  have := cells_wds [.i, .i, .i, .i] [.int .u32 pc.toNat, .int .i64 d, .int .i64 y, .int .i64 e] [.int .u32 pc'.toNat, .int .i64 d', .int .i64 y', .int .i64 e'] r1 r2 (by rw [h1, h2])
  rw [h1] at this
  have h3 : cellsEq [.i, .i, .i, .i] [.int .u32 pc.toNat, .int .i64 d, .int .i64 y, .int .i64 e] [.int .u32 pc'.toNat, .int .i64 d', .int .i64 y', .int .i64 e'] = some (decide (pc = pc' ∧ d = d' ∧ y = y' ∧ e = e')) := by
    simp only [cellsEq, if_true, Option.map_some, beq_toNat]
    congr 1
    rw [Bool.eq_iff_iff]
    simp
  rw [h3] at this
  simp only [aeq]
  refine (congrArg (Option.map _) this).trans ?_
  simp only [Option.map_some]
  congr 3
  rw [Bool.eq_iff_iff]
  simp
theorem oc_self {r1 : List (BitVec 32)} (h1 : r1.length = 32) {pc : BitVec 32} {d y e : Int} : aeq false [.i, .i, .i, .i, .i, .i, .i, .i, .i, .i, .i, .i, .i, .i, .i, .i, .i, .i, .i, .i, .i, .i, .i, .i, .i, .i, .i, .i, .i, .i, .i, .i, .i, .i, .i, .i] (.agg (outC r1 pc d y e)) (.agg (outC r1 pc d y e)) = some (.bool true) := by
  rw [oc_eq h1 h1]; simp
theorem wd_part {w : IWd} (hl : w.regs.length = 32) : partOf w.cells 0 (some 32) = some (.agg (wds w.regs)) := by
  have hw : (wds w.regs).length = 32 := by simp [wds, hl]
  have : w.cells.length = 35 := by simp [IWd.cells, hw]
  simp only [partOf]
  rw [this, if_pos (by decide), IWd.cells, List.drop_zero, List.take_append_of_le_length (by omega), List.take_of_length_le (by omega)]
theorem wd_all {w : IWd} (hl : w.regs.length = 32) : partOf w.cells 0 (some 35) = some (.agg w.cells) := partOf_all (wd_at hl).1
theorem wd_reg {w : IWd} (hl : w.regs.length = 32) (i : Nat) (hi : i < 32) : w.cells[i]? = some (.int .u32 ((w.regs.getD i 0#32).toNat : Int)) := by
  rw [IWd.cells, List.getElem?_append_left (by simp [wds, hl]; omega), wds_get, if_pos (by omega)]
theorem MemTo.sub {M : IRam} {l : Pl} {H : Heap} (hn : ∀ c, l.has c → h c = none) (ho : ∀ c, ¬ l.has c → H c = h c) : Sub h H := by
  intro c x hc
  rw [ho c (fun q => by rw [hn c q] at hc; cases hc)]
  exact hc
theorem out_of {b : IBk} (hr : b.right = true) {regs : List (BitVec 32)} (hl : regs.length = 32) (M : IRam) : ∃ (R : List (BitVec 32)) (pc : BitVec 32) (d y : Int) (X : Nat), b.outOf regs M = outC R pc d y X ∧ b.exitOf regs M = X ∧ R.length = 32 ∧ X < b.exits.length ∧
    ∀ i : Nat, i < 32 → (∀ v ∈ (b.ex X).map, v.reg ≠ i) → R.getD i 0#32 = regs.getD i 0#32 := by
  obtain ⟨h1, h2⟩ := exitOf_ok hr regs M
  obtain ⟨X, hX⟩ : ∃ X : Nat, b.exitOf regs M = X := ⟨(b.exitOf regs M).toNat, by omega⟩
  refine ⟨_, _, _, _, X, by rw [IBk.outOf, hX], hX, by rw [leaveR, foldR_len, hl], by omega, fun i hi hv => ?_⟩
  rw [leaveR]
  exact foldR_no _ _ _ _ (map_reg hr (by omega)) hv
theorem lawKeeps_spec (b : IBk) (w : IWd) (he : b.exits.length ≤ 9223372036854775807) (hl : w.regs.length = 32) : Spec Try.prog G 4 [.agg b.cells, .agg w.cells] h (Is (.bool true) h) := by
  obtain ⟨w0, w32, w33, w34, wr⟩ := wd_at hl
  have wp := wd_part hl
  have wa := wd_all hl
  have hL := light24_spec (G := G) (h := h) b w he hl
  cases hlt : light24 b w with
  | false =>
    rw [hlt] at hL
    refine Spec.is C4ok rfl ?_
    simp only [push_cast, simprocAttr, wa]
    refine hL.to ?_
    simp only [push_cast, simprocAttr, wa]
    refine awake24_spec.to ?_
    simp only [push_cast, simprocAttr]
  | true =>
    rw [hlt] at hL
    obtain ⟨hwf, ho, hx, hp, hm, n, hs, hn, hn2, hb, h0⟩ := light24_facts hlt
    have hC := rCheck_spec (G := G) (h := h) b hwf
    by_cases hc : b.check = 0
    · have hr := check_right hc
      refine Spec.is C4ok rfl ?_
      simp only [push_cast, simprocAttr, wa]
      refine hL.to ?_
      simp only [push_cast, simprocAttr, wa]
      refine hC.to ?_
      rw [hc]
      simp only [push_cast, simprocAttr, wa]
      refine (Memory_spec hl hs hn hb).mono ?_
      rintro _ H ⟨l, rfl, hr1, hnew, hold⟩
      have s1 : Sub h H := MemTo.sub (M := wdM w n 16) hnew hold
      simp only [push_cast, simprocAttr, wp]
      refine (Own_spec b hwf).to ?_
      simp only [push_cast, simprocAttr, wp]
      have hm2 : ∀ e ∈ b.exits, e.map.length ≤ 1000 := fun e q => Nat.le_trans (hm e q) (by decide)
      refine (Do_right (regs := w.regs) hr1 hwf hc hl hm2).mono ?_
      rintro _ H2 ⟨rfl, hr2, hold2⟩
      obtain ⟨R, pc, d, y, X, hO, hX, hRl, hXl, hkeep⟩ := out_of hr hl (wdM w n 16)
      have s2 : Sub h H2 := fun c x q => by
        have hn' : ¬ l.has c := fun e => by rw [hnew c e] at q; cases q
        rw [hold2 c hn', hold c hn']; exact q
      rw [hO]
      have o35 := (oc_at (regs := R) hRl (pc := pc) (done := d) (why := y) (exit := X)).2.2.2
      have oput := oc_put36 (regs := R) (pc := pc) (done := d) (why := y) (exit := X) hRl
      have olen := oc_len (regs := R) (pc := pc) (done := d) (why := y) (exit := X) hRl
      have oall := oc_all (regs := R) (pc := pc) (done := d) (why := y) (exit := X) hRl
      simp only [push_cast, simprocAttr, wp]
      intro c7 hc7
      rw [era_none hc7]
      simp only [push_cast, simprocAttr, wp, o35, oput, olen, oall]
      refine ⟨fun q => by omega, fun _ => ?_⟩
      clear oput olen
      have hml : (b.ex X).map.length ≤ 100 := by
        have := hm (b.ex X) (by simp [IBk.ex, hXl])
        exact this
      have hexl : b.exits.length ≤ 200 := hx
      refine lpc.rel [2, 3, 5, 6, 7, 9] (fun m ρ h' => ∃ i : Nat, m = 32 - i ∧ i ≤ 32 ∧ H2 = h' ∧ ρ = [(2, .cp b.cells 0), (3, .cp w.cells 0), (5, .ptr l.p 0), (6, bkP b), (7, .cp (outC R pc d y X) 0), (9, .int .i64 (i : Int))]) ⟨_, 0, rfl, by omega, rfl, rfl⟩ ?_
      rintro m _ _ ⟨i, rfl, hi, rfl, rfl⟩
      simp only [push_cast, simprocAttr, wp, o35, oall]
      refine ⟨fun hi2 => ?_, fun hi2 => ?_⟩
      · obtain ⟨E, hE⟩ : ∃ E, b.exits.getD X IEx.zero = E := ⟨_, rfl⟩
        have hE2 : b.ex X = E := hE
        rw [hE2] at hml hkeep
        obtain ⟨T, hT⟩ : ∃ T : Nat → Bool, ∀ k, T k = (E.map.take k).any fun v => v.reg == (i : Int) := ⟨_, fun _ => rfl⟩
        have T0 : T 0 = false := by simp [hT]
        have TS : ∀ k, k < E.map.length → T (k + 1) = (T k || (E.map.getD k IVl.zero).reg == (i : Int)) := fun k hk => by
          rw [hT, hT, List.take_add_one, List.any_append]
          simp [hk]
        have oi := oc_reg (regs := R) hRl (pc := pc) (done := d) (why := y) (exit := X) i (by omega)
        have wi := wd_reg hl i (by omega)
        refine lpc.rel [2, 3, 5, 6, 7, 9, 10, 11] (fun m ρ h' => ∃ k : Nat, m = E.map.length - k ∧ k ≤ E.map.length ∧ H2 = h' ∧
          ρ = [(2, .cp b.cells 0), (3, .cp w.cells 0), (5, .ptr l.p 0), (6, bkP b), (7, .cp (outC R pc d y X) 0), (9, .int .i64 (i : Int)), (10, .bool (T k)), (11, .int .i64 (k : Int))]) ⟨_, 0, rfl, by omega, rfl, by rw [T0]; rfl⟩ ?_
        rintro m _ _ ⟨k, rfl, hk, rfl, rfl⟩
        have hTS := TS k
        by_cases hk2 : k < E.map.length
        · have hTS' := TS k hk2
          cases hTk : T k with
          | true =>
            rw [hTk, Bool.true_or] at hTS'
            simp (disch := omega) only [push_cast, simprocAttr, wrap_i64, toNat_ofInt64, Nat.min_eq_left, Int.toNat_of_nonneg, wp, o35, oall, hE, hk2, hXl]
            exact ⟨_, _, by omega, .refl _, k + 1, rfl, by omega, rfl, by rw [hTS']; rfl⟩
          | false =>
            rw [hTk, Bool.false_or] at hTS'
            simp (disch := omega) only [push_cast, simprocAttr, wrap_i64, toNat_ofInt64, Nat.min_eq_left, Int.toNat_of_nonneg, wp, o35, oall, hE, hk2, hXl]
            exact ⟨_, _, by omega, .refl _, k + 1, rfl, by omega, rfl, by rw [hTS']; rfl⟩
        · obtain rfl : k = E.map.length := by omega
          cases hTk : T E.map.length with
          | true =>
            simp (disch := omega) only [push_cast, simprocAttr, wrap_i64, toNat_ofInt64, Nat.min_eq_left, Int.toNat_of_nonneg, wp, o35, oall, hE, hXl]
            refine ⟨fun q => absurd q (by omega), fun _ => ?_⟩
            exact ⟨_, _, by omega, .refl _, i + 1, rfl, by omega, rfl, rfl⟩
          | false =>
            have hR := hkeep i (by omega) fun v hv e => by
              rw [hT, List.take_length] at hTk
              have := List.any_eq_false.1 hTk v hv
              simp [e] at this
            rw [hR] at oi
            simp (disch := omega) only [push_cast, simprocAttr, wrap_i64, toNat_ofInt64, Nat.min_eq_left, Int.toNat_of_nonneg, wp, o35, oall, hE, hXl, oi, wi]
            refine ⟨fun q => absurd q (by omega), fun _ => ⟨hi2, hi2, ?_⟩⟩
            exact ⟨_, _, by omega, .refl _, i + 1, rfl, by omega, rfl, rfl⟩
      · refine lpc.rel [2, 3, 5, 6, 7, 12] (fun m ρ h' => ∃ k : Nat, m = b.ops.length - k ∧ k ≤ b.ops.length ∧ H2 = h' ∧ (∀ j, j < k → (b.op j).code ≠ 5) ∧ ρ = [(2, .cp b.cells 0), (3, .cp w.cells 0), (5, .ptr l.p 0), (6, bkP b), (7, .cp (outC R pc d y X) 0), (12, .int .i64 (k : Int))]) ⟨_, 0, rfl, by omega, rfl, fun j hj => by omega, rfl⟩ ?_
        rintro m _ _ ⟨k, rfl, hk, rfl, hall, rfl⟩
        simp only [push_cast, simprocAttr, wp, oall]
        refine ⟨fun hk2 => ?_, fun hk2 => ?_⟩
        · have hop : b.ops.getD k IOp.zero = b.op k := rfl
          rw [hop]
          refine ⟨hk2, hk2, fun q => ?_, fun q => ?_⟩
          · refine awake24_spec.to ?_
            simp only [push_cast, simprocAttr]
            exact s2
          · simp (disch := omega) only [push_cast, simprocAttr, wrap_i64, toNat_ofInt64, Nat.min_eq_left, Int.toNat_of_nonneg]
            refine ⟨_, _, by omega, .refl _, k + 1, rfl, by omega, rfl, fun j hj => ?_, rfl⟩
            by_cases hjk : j = k
            · subst hjk; exact q
            · exact hall j (by omega)
        · obtain rfl : k = b.ops.length := by omega
          have hmem : b.ramOf w.regs (wdM w n 16) = wdM w n 16 := runN_mem _ _ _ _ fun o ho5 => by
            obtain ⟨j, hj, rfl⟩ := List.getElem_of_mem ho5
            have := hall j hj
            simpa [IBk.op, hj] using this
          rw [hmem] at hr2
          refine (Do_right (regs := w.regs) hr2 hwf hc hl hm2).mono ?_
          rintro _ H3 ⟨rfl, hr3, hold3⟩
          rw [hmem] at hr3
          rw [hO]
          have s3 : Sub h H3 := fun c x q => by
            have hn' : ¬ l.has c := fun e => by rw [hnew c e] at q; cases q
            rw [hold3 c hn']; exact s2 c x q
          have oput := oc_put36 (regs := R) (pc := pc) (done := d) (why := y) (exit := X) hRl
          have olen := oc_len (regs := R) (pc := pc) (done := d) (why := y) (exit := X) hRl
          have oself := oc_self (r1 := R) hRl (pc := pc) (d := d) (y := y) (e := X)
          have hBl : (wdM w n 16).b.length = n := by simp [wdM, wdB]; omega
          simp only [push_cast, simprocAttr, oput, olen, oall]
          intro c13 hc13
          rw [era_none hc13]
          simp only [push_cast, simprocAttr, wp, wa, oput, olen, oall, oself]
          have hSB := SameBytes_spec (G := G) (h := H3) (wdM w n 16).b (wdM w n 16).b (by omega)
          rw [decide_eq_true rfl] at hSB
          have rm0 : (wdM w n 16).cells[0]? = some (byt (wdM w n 16).b) := rfl
          have rml : (wdM w n 16).cells.length = 3 := rfl
          refine (AllBytes_spec hr3).to ?_
          simp only [push_cast, simprocAttr, wp, wa, oput, olen, oall, oself]
          refine (Pages_spec hl hs hn hn2 hb).to ?_
          simp only [push_cast, simprocAttr, wp, wa, oput, olen, oall, oself, rm0, rml]
          refine hSB.to ?_
          simp only [push_cast, simprocAttr, wp, wa, oput, olen, oall, oself, rm0, rml]
          refine awake24_spec.to ?_
          simp only [push_cast, simprocAttr, wp, wa, oput, olen, oall, oself, rm0, rml]
          trace_state
          exact s3
    · have hc' : (b.check != 0) = true := by simp [hc]
      refine Spec.is C4ok rfl ?_
      simp only [push_cast, simprocAttr, wa]
      refine hL.to ?_
      simp only [push_cast, simprocAttr, wa]
      refine hC.to ?_
      simp only [push_cast, simprocAttr, wa, hc']
      refine awake24_spec.to ?_
      simp only [push_cast, simprocAttr]
end Go.Ab
