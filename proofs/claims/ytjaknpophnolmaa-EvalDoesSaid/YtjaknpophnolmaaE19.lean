/- The document's answer for a block, done. -/
import Derived.Test.YtjaknpophnolmaaE18
set_option linter.unusedSimpArgs false
set_option linter.unusedVariables false
set_option maxRecDepth 10000
namespace Go.Ab
open Go.Proofs
variable {G : Glo} {h : Heap}
/-- The values so far, in a row of one's own over other blocks. -/
def RowV (g : Heap) (vv : AV) (vals : List (BitVec 32)) (H : Heap) : Prop := ∃ c pre cap sp, vv = .sl c (List.length pre) vals.length cap ∧ g c = none ∧ cap ≤ vals.length + sp ∧ H = upd g c ⟨pre ++ wds vals, sp⟩
theorem RowV.vv {g H : Heap} {vv : AV} {vals : List (BitVec 32)} (hr : RowV g vv vals H) : VV H vv vals := by
  obtain ⟨c, pre, cap, sp, h1, h2, h3, rfl⟩ := hr
  exact ⟨c, pre, cap, sp, h1, upd_same _ _ _⟩
theorem RowV.app {g H : Heap} {vv : AV} {vals : List (BitVec 32)} (hr : RowV g vv vals H) (w : BitVec 32) (hn : vals.length ≤ 1000) {Q : AV → Heap → Prop} (hq : ∀ v' H', RowV g v' (vals ++ [w]) H' → Q v' H') : appQ 1 4 1 [.int .u32 w.toNat] vv H Q := by
  obtain ⟨c, pre, cap, sp, rfl, h2, h3, rfl⟩ := hr
  have ho : Own 1 g (.sl c pre.length vals.length cap) (wds vals) vals.length (upd g c ⟨pre ++ wds vals, sp⟩) := .row c vals.length cap pre (wds vals) sp h2 (by simp [wds]) (by omega)
  refine ho.app (m := 1) rfl (by omega) (by omega) fun v' h' ho2 => ?_
  have hX : wds vals ++ [AV.int .u32 w.toNat] = wds (vals ++ [w]) := by simp [wds]
  have hN : vals.length + 1 = (vals ++ [w]).length := by simp
  rw [hX, hN] at ho2
  generalize (vals ++ [w]) = U at ho2 hq hN
  generalize hU : wds U = X at ho2
  generalize hL : U.length = N at ho2
  cases ho2 with
  | nil => omega
  | row c' _ cap' pre' cells sp' hb hl hc => exact hq _ _ ⟨c', pre', cap', sp', by rw [hL], hb, by rw [hL]; simpa using hc, by rw [hU]⟩
theorem RowV.get {g H : Heap} {vv : AV} {vals : List (BitVec 32)} (hr : RowV g vv vals H) {b : Nat} {x : Blk} (hb : g b = some x) : H b = some x := by
  obtain ⟨c, pre, cap, sp, rfl, h2, h3, rfl⟩ := hr
  rw [upd_ne (fun e => by rw [e, h2] at hb; cases hb)]
  exact hb
theorem RowV.set {g H : Heap} {vv : AV} {vals : List (BitVec 32)} (hr : RowV g vv vals H) {b : Nat} {x : Blk} (y : Blk) (hb : g b = some x) : RowV (upd g b y) vv vals (upd H b y) := by
  obtain ⟨c, pre, cap, sp, rfl, h2, h3, rfl⟩ := hr
  have hne : c ≠ b := fun e => by rw [e, hb] at h2; cases h2
  exact ⟨c, pre, cap, sp, rfl, by rw [upd_ne hne]; exact h2, h3, upd_comm hne⟩
theorem RowV.sub {g H : Heap} {vv : AV} {vals : List (BitVec 32)} (hr : RowV g vv vals H) : Sub g H := by
  obtain ⟨c, pre, cap, sp, rfl, h2, h3, rfl⟩ := hr
  exact (Sub.refl g).alloc h2
theorem RowV.alloc {g H : Heap} {vv : AV} {vals : List (BitVec 32)} (hr : RowV g vv vals H) {b : Nat} (y : Blk) (hb : H b = none) : RowV (upd g b y) vv vals (upd H b y) := by
  obtain ⟨c, pre, cap, sp, rfl, h2, h3, rfl⟩ := hr
  have hne : c ≠ b := fun e => by rw [e, upd_same] at hb; cases hb
  exact ⟨c, pre, cap, sp, rfl, by rw [upd_ne hne]; exact h2, h3, upd_comm hne⟩
theorem foldR_app (vals : List (BitVec 32)) (w : BitVec 32) (m : List IVl) (regs : List (BitVec 32)) (hm : ∀ v ∈ m, 0 ≤ v.val ∧ v.val < vals.length) : foldR (vals ++ [w]) m regs = foldR vals m regs := by
  induction m generalizing regs with
  | nil => rfl
  | cons v r ih =>
    have e1 : ∀ u, foldR u (v :: r) regs = foldR u r (regs.set v.reg.toNat (lv u v.val)) := fun _ => rfl
    have hv := hm v (by simp)
    have e2 : lv (vals ++ [w]) v.val = lv vals v.val := by
      simp only [lv, List.getD_eq_getElem?_getD]
      rw [List.getElem?_append_left (by omega)]
    rw [e1, e1, e2]
    exact ih _ fun u hu => hm u (by simp [hu])
theorem leave_app {e : IEx} {vals : List (BitVec 32)} (he : okEx e vals.length) (w : BitVec 32) (regs : List (BitVec 32)) : leaveR e regs (vals ++ [w]) = leaveR e regs vals ∧ leaveP e (vals ++ [w]) = leaveP e vals := by
  refine ⟨foldR_app vals w e.map regs fun v hv => ?_, ?_⟩
  · obtain ⟨i, hi, rfl⟩ := List.getElem_of_mem hv
    have := he.1 i hi
    simp only [IEx.vl, List.getD_eq_getElem?_getD, List.getElem?_eq_getElem hi, Option.getD_some] at this
    exact this.1
  · unfold leaveP
    split
    · rfl
    · rename_i ht
      have := he.2.resolve_left ht
      simp only [lv, List.getD_eq_getElem?_getD]
      rw [List.getElem?_append_left (by omega)]
theorem store_wf {M : IRam} (hM : M.wf) {addr : BitVec 32} {n : Nat} {w : BitVec 32} (hz : askedN M.b.length addr n = 0) : (M.store addr n w).1.wf := by
  have hH : hasN M.b.length addr n = true := by unfold askedN at hz; split at hz; omega; split at hz; omega; split at hz; assumption; omega
  simp only [hasN, Bool.and_eq_true, decide_eq_true_eq] at hH
  obtain ⟨k, hk⟩ : ∃ k, addr.toNat - 2147483648 = k := ⟨_, rfl⟩
  have hl := put_len M k (leB w n) (by rw [leB_len]; omega)
  have hw : (M.put k (leB w n)).w = M.w := rfl
  have hg : (M.put k (leB w n)).g = M.g := rfl
  unfold IRam.store
  rw [hk]
  unfold IRam.wf at hM ⊢
  dsimp only
  split
  · simp only [List.length_set]; rw [hl, hw, hg]; exact hM
  · rw [hl, hw, hg]; exact hM
theorem step_wf {M : IRam} (hM : M.wf) (regs : List (BitVec 32)) (o : IOp) (vals : List (BitVec 32)) : (stepN regs o vals M).2.2.wf := by
  unfold stepN
  split
  · exact hM
  · split
    · split <;> exact hM
    · split
      · unfold storeX
        split
        · rename_i hE
          simp only [storeR]
          have hz := hE
          unfold storeE at hz
          obtain ⟨N, hN⟩ : ∃ N : Nat, storesN o.imm.toNat = N := ⟨(storesN o.imm.toNat).toNat, by unfold askedN at hz; split at hz <;> omega⟩
          rw [hN] at hz ⊢
          exact store_wf hM hz
        · exact hM
      · split
        · exact hM
        · split <;> exact hM
def rOutOf (b : IBk) (regs : List (BitVec 32)) (M : IRam) : List AV := b.outOf regs M ++ (b.ramOf regs M).cells
section
variable {M : IRam} {b : IBk} {regs : List (BitVec 32)}
theorem rDo_spec (hM : M.wf) (hc : b.check = 0) (hlen : regs.length = 32) (hm : ∀ e ∈ b.exits, e.map.length ≤ 1000) :
    Spec Try.prog G 18 [.agg b.cells, .agg (wds regs), ramV M] h (Is (.agg (rOutOf b regs M)) h) := by
  have hwl : (wds regs).length = 32 := by simp [wds, hlen]
  have hpa : partOf (wds regs) 0 (some 32) = some (.agg (wds regs)) := partOf_all hwl
  have bpa : partOf b.cells 0 (some 4) = some (.agg b.cells) := partOf_all rfl
  have rmlG : ∀ M : IRam, M.cells.length = 3 := fun _ => rfl
  have rmaG : ∀ M : IRam, partOf M.cells 0 (some 3) = some (.agg M.cells) := fun M => partOf_all rfl
  have rm0G : ∀ M : IRam, M.cells[0]? = some (byt M.b) := fun _ => rfl
  have hright := check_right hc
  have hol : b.ops.length ≤ 512 := by
    unfold IBk.check IBk.long at hc
    split at hc
    · cases hc
    · rename_i hl; simp only [Bool.or_eq_true, decide_eq_true_eq] at hl; omega
  have hmx : ∀ n, (b.ex n).map.length ≤ 1000 := fun n => getD_map hm
  refine Spec.is C18ok rfl ?_
  simp only [push_cast, simprocAttr, hwl, rmlG]
  intro c5 hc5 c6 hc6
  obtain ⟨n65, hc6h⟩ := upd_none hc6
  obtain ⟨g0, hg0⟩ : ∃ g0, upd (upd h c5 ⟨M.cells, 0⟩) c6 ⟨[.int .u32 0, .int .u32 0, .int .u32 0, .int .u32 0, .int .u32 0, .int .u32 0, .int .u32 0, .int .u32 0, .int .u32 0, .int .u32 0, .int .u32 0, .int .u32 0, .int .u32 0, .int .u32 0, .int .u32 0, .int .u32 0, .int .u32 0, .int .u32 0, .int .u32 0, .int .u32 0, .int .u32 0, .int .u32 0, .int .u32 0, .int .u32 0, .int .u32 0, .int .u32 0, .int .u32 0, .int .u32 0, .int .u32 0, .int .u32 0, .int .u32 0, .int .u32 0, .int .u32 0, .int .i64 0, .int .i64 0, .int .i64 0, .nils, .nils, .nils], 0⟩ = g0 := ⟨_, rfl⟩
  have z6 : ∃ Z : List AV, Z.length = 39 ∧ g0 c6 = some ⟨Z, 0⟩ := ⟨_, rfl, by rw [← hg0, upd_same]⟩
  have z5 : g0 c5 = some ⟨M.cells, 0⟩ := by rw [← hg0, upd_ne (Ne.symm n65), upd_same]
  have s0 : Sub h g0 := hg0 ▸ ((Sub.refl h).alloc hc5).alloc hc6
  rw [hg0]
  clear hg0 hc6
  obtain ⟨Z, hZ, z6⟩ := z6
  intro c7 hc7
  have fin : ∀ (H2 : Heap) (R : List (BitVec 32)) (pc : BitVec 32) (d y n : Int) (M2 : IRam), R.length = 32 → H2 c6 = some ⟨Z, 0⟩ → Sub h H2 → b.outOf regs M = outC R pc d y n → b.ramOf regs M = M2 →
      (H2 c6 = some ⟨Z, 0⟩ ∧ (rOut R pc d y n M2).length = 39 ∧ splice Z 0 (rOut R pc d y n M2) = rOut R pc d y n M2 ∧ partOf (rOut R pc d y n M2) 0 (some 39) = some (.agg (rOutOf b regs M)) ∧ ∀ X, Sub h (upd H2 c6 X)) := by
    intro H2 R pc d y n M2 hR h6 hs hO hM2
    exact ⟨h6, oT_len hR (rmlG _), oT_put hR (rmlG _) Z hZ, by rw [rOut, oT_all hR (rmlG _), rOutOf, hO, hM2]; rfl, fun X => hs.set hc6h⟩
  refine lpc.rel [3, 4, 5, 6, 7, 8] (fun m ρ H => ∃ k vv vals M1 g, m = b.ops.length - k ∧ k ≤ b.ops.length ∧ RowV g vv vals H ∧ vals.length = k ∧ M1.wf ∧ g c5 = some ⟨M1.cells, 0⟩ ∧ g c6 = some ⟨Z, 0⟩ ∧ Sub h g ∧ runN regs b.ops [] M = runN regs (b.ops.drop k) vals M1 ∧
    ρ = [(3, .cp b.cells 0), (4, .cp (wds regs) 0), (5, .ptr c5 0), (6, .ptr c6 0), (7, vv), (8, .int .i64 (k : Int))]) ⟨_, 0, .sl c7 0 0 0, [], M, g0, rfl, by omega, ⟨c7, [], 0, 0, rfl, hc7, by simp, rfl⟩, rfl, hM, z5, z6, s0, rfl, rfl⟩ ?_
  clear z5 z6 s0 hc7
  rintro m _ H ⟨k, vv, vals, M1, g, rfl, hk, hrow, hvl, hM1, z5, z6, s0, hrun, rfl⟩
  simp only [push_cast, simprocAttr, hwl, rmlG]
  refine ⟨fun hk2 => ?_, fun hk2 => ?_⟩
  · have hop : b.ops.getD k IOp.zero = b.op k := rfl
    rw [hop]
    obtain ⟨ok1, okx, oky⟩ := op_ok hright k hk2
    refine ⟨hk2, hk2, fun c9 hc9 => ?_⟩
    rw [era_none hc9]
    have h5 := hrow.get z5
    have h6 := hrow.get z6
    have hvl2 : vals.length ≤ 1000 := by omega
    obtain ⟨k0, k1, k3, k6, ka, kb⟩ := ok1
    have hdr : b.ops.drop k = b.op k :: b.ops.drop (k + 1) := by
      rw [List.drop_eq_getElem_cons hk2]; congr 1; simp [IBk.op, hk2]
    rw [hdr] at hrun
    have hsx := step_exit hright k hk2 regs vals M1
    have hsw := step_wf hM1 regs (b.op k) vals
    simp only [runN] at hrun
    have ex : ∀ (x : Int) (M2 : IRam) (w : BitVec 32) (g2 H2 : Heap) (vv2 : AV), b.exit x k = true → RowV g2 vv2 vals H2 → g2 c6 = some ⟨Z, 0⟩ → Sub h g2 → runN regs b.ops [] M = (some x, vals ++ [w], M2) →
        (0 ≤ x ∧ x < b.exits.length ∧ okEx (b.ex x.toNat) vals.length) ∧ H2 c6 = some ⟨Z, 0⟩ ∧ (rOut (leaveR (b.ex x.toNat) regs vals) (leaveP (b.ex x.toNat) vals) (b.ex x.toNat).done (b.ex x.toNat).why x M2).length = 39 ∧
        splice Z 0 (rOut (leaveR (b.ex x.toNat) regs vals) (leaveP (b.ex x.toNat) vals) (b.ex x.toNat).done (b.ex x.toNat).why x M2) = rOut (leaveR (b.ex x.toNat) regs vals) (leaveP (b.ex x.toNat) vals) (b.ex x.toNat).done (b.ex x.toNat).why x M2 ∧
        partOf (rOut (leaveR (b.ex x.toNat) regs vals) (leaveP (b.ex x.toNat) vals) (b.ex x.toNat).done (b.ex x.toNat).why x M2) 0 (some 39) = some (.agg (rOutOf b regs M)) ∧ ∀ X, Sub h (upd H2 c6 X) := by
      intro x M2 w g2 H2 vv2 hx hr2 h6' hs2 hrun2
      obtain ⟨x1, x2, x3⟩ := okEx_of hright hx (m := vals.length) (by omega)
      obtain ⟨l1, l2⟩ := leave_app x3 w regs
      refine ⟨⟨x1, x2, x3⟩, fin H2 _ _ _ _ x M2 (by rw [leaveR, foldR_len, hlen]) (hr2.get h6') (fun c y hc => hr2.sub c y (hs2 c y hc)) ?_ ?_⟩
      · simp only [IBk.outOf, IBk.exitOf, hrun2, Option.getD_some, l1, l2]
      · rw [IBk.ramOf, hrun2]
    generalize b.op k = o at *
    have hcd : o.code = 1 ∨ o.code = 2 ∨ o.code = 3 ∨ o.code = 4 ∨ o.code = 5 ∨ o.code = 6 := by omega
    rcases hcd with hcd | hcd | hcd | hcd | hcd | hcd
    · have hi := k1 hcd
      have hN : stepN regs o vals M1 = (regs.getD o.imm.toNat 0#32, -1, M1) := by rw [stepN, if_pos hcd]
      rw [hN, if_pos rfl] at hrun
      simp (disch := omega) only [push_cast, simprocAttr, wrap_i64, toNat_ofInt64, Nat.min_eq_left, Int.toNat_of_nonneg, hcd, hwl, rmlG]
      refine ⟨by omega, by omega, ?_⟩
      refine hrow.app (regs.getD o.imm.toNat 0#32) hvl2 fun v' H' hrow' => ?_
      simp (disch := omega) only [push_cast, simprocAttr, wrap_i64, toNat_ofInt64, Nat.min_eq_left, Int.toNat_of_nonneg, hcd]
      exact ⟨_, _, by omega, .refl _, k + 1, v', vals ++ [(regs.getD o.imm.toNat 0#32)], M1, g, rfl, by omega, hrow', by simp [hvl], hM1, z5, z6, s0, hrun, rfl⟩
    · have hN : stepN regs o vals M1 = (o.imm, -1, M1) := by simp [stepN, hcd]
      rw [hN, if_pos rfl] at hrun
      simp (disch := omega) only [push_cast, simprocAttr, wrap_i64, toNat_ofInt64, Nat.min_eq_left, Int.toNat_of_nonneg, hcd, hwl, rmlG]
      refine hrow.app o.imm hvl2 fun v' H' hrow' => ?_
      simp (disch := omega) only [push_cast, simprocAttr, wrap_i64, toNat_ofInt64, Nat.min_eq_left, Int.toNat_of_nonneg, hcd]
      exact ⟨_, _, by omega, .refl _, k + 1, v', vals ++ [o.imm], M1, g, rfl, by omega, hrow', by simp [hvl], hM1, z5, z6, s0, hrun, rfl⟩
    · obtain ⟨a1, a2⟩ := ka (by omega)
      obtain ⟨b1, b2⟩ := kb (.inl hcd)
      have hN : stepN regs o vals M1 = (reckN o.imm.toNat (lv vals o.a) (lv vals o.b), -1, M1) := by simp [stepN, hcd]
      rw [hN, if_pos rfl] at hrun
      obtain ⟨c, pre, cap, sp, rfl, hcv⟩ := hrow.vv
      have ea := row_get pre vals o.a.toNat (by omega)
      have eb := row_get pre vals o.b.toNat (by omega)
      have a3 : o.a < (vals.length : Int) := by omega
      have b3 : o.b < (vals.length : Int) := by omega
      simp (disch := omega) only [push_cast, simprocAttr, wrap_i64, toNat_ofInt64, Nat.min_eq_left, Int.toNat_of_nonneg, hcd, hwl, rmlG, rmaG, rm0G, h5, hcv, ea, a1, a3, eb, b1, b3]
      refine (Reckon_spec o.imm.toNat (lv vals o.a) (lv vals o.b) (k3 hcd)).to ?_
      simp (disch := omega) only [push_cast, simprocAttr, wrap_i64, toNat_ofInt64, Nat.min_eq_left, Int.toNat_of_nonneg, hcd, hwl, rmlG, rmaG, rm0G, h5, hcv, ea, a1, a3, eb, b1, b3]
      refine hrow.app (reckN o.imm.toNat (lv vals o.a) (lv vals o.b)) hvl2 fun v' H' hrow' => ?_
      simp (disch := omega) only [push_cast, simprocAttr, wrap_i64, toNat_ofInt64, Nat.min_eq_left, Int.toNat_of_nonneg, hcd]
      exact ⟨_, _, by omega, .refl _, k + 1, v', vals ++ [(reckN o.imm.toNat (lv vals o.a) (lv vals o.b))], M1, g, rfl, by omega, hrow', by simp [hvl], hM1, z5, z6, s0, hrun, rfl⟩
    · obtain ⟨a1, a2⟩ := ka (by omega)
      have hN : stepN regs o vals M1 = if loadE o vals M1 = 0 then (extI o.imm.toNat (M1.load (lv vals o.a) (loadsN o.imm.toNat).toNat), -1, M1) else (0, o.x, M1) := by simp [stepN, hcd]
      obtain ⟨c, pre, cap, sp, rfl, hcv⟩ := hrow.vv
      have ea := row_get pre vals o.a.toNat (by omega)
      have a3 : o.a < (vals.length : Int) := by omega
      have hbl : M1.b.length ≤ 65536 := by have := hM1; unfold IRam.wf at this; omega
      simp (disch := omega) only [push_cast, simprocAttr, wrap_i64, toNat_ofInt64, Nat.min_eq_left, Int.toNat_of_nonneg, hcd, hwl, rmlG, rmaG, rm0G, h5, hcv, ea, a1, a3]
      refine (rLoads_spec o.imm.toNat).to ?_
      simp (disch := omega) only [push_cast, simprocAttr, wrap_i64, toNat_ofInt64, Nat.min_eq_left, Int.toNat_of_nonneg, hcd, hwl, rmlG, rmaG, rm0G, h5, hcv, ea, a1, a3]
      refine (rAsked_spec M1.b (lv vals o.a) (loadsN o.imm.toNat) hbl).to ?_
      by_cases hE : loadE o vals M1 = 0
      · rw [if_pos hE] at hN
        have hE' : askedN M1.b.length (lv vals o.a) (loadsN o.imm.toNat) = 0 := hE
        rw [hE']
        obtain ⟨N, hLN⟩ : ∃ N : Nat, loadsN o.imm.toNat = N := ⟨(loadsN o.imm.toNat).toNat, by unfold askedN at hE'; split at hE' <;> omega⟩
        rw [hLN] at hE' hN ⊢
        have hH : hasN M1.b.length (lv vals o.a) N = true := by unfold askedN at hE'; split at hE'; omega; split at hE'; omega; split at hE'; assumption; omega
        have hn124 : N = 1 ∨ N = 2 ∨ N = 4 := by unfold askedN at hE'; split at hE' <;> omega
        rw [hN, if_pos rfl] at hrun
        simp (disch := omega) only [push_cast, simprocAttr, wrap_i64, toNat_ofInt64, Nat.min_eq_left, Int.toNat_of_nonneg, hcd, hwl, rmlG, rmaG, rm0G, h5, hcv, ea, a1, a3]
        refine (rLoad_spec M1 (lv vals o.a) N hbl hn124 hH).to ?_
        simp (disch := omega) only [push_cast, simprocAttr, wrap_i64, toNat_ofInt64, Nat.min_eq_left, Int.toNat_of_nonneg, hcd, hwl, rmlG, rmaG, rm0G, h5, hcv, ea, a1, a3]
        simp only [Int.toNat_natCast] at hrun
        by_cases e11 : (o.imm.toNat : Int) = 11
        · have hN1 : N = 1 := by rw [e11] at hLN; simp [loadsN] at hLN; omega
          subst hN1
          have hX : extI o.imm.toNat (M1.load (lv vals o.a) 1) = BitVec.ofNat 32 (extN (M1.load (lv vals o.a) 1).toNat 8) := by rw [extI, if_pos e11]
          rw [hX] at hrun
          simp (disch := omega) only [push_cast, simprocAttr, wrap_i64, toNat_ofInt64, Nat.min_eq_left, Int.toNat_of_nonneg, e11]
          intro _
          refine (Extend_spec (M1.load (lv vals o.a) 1) 8 (by omega) (by omega)).to ?_
          simp (disch := omega) only [push_cast, simprocAttr, wrap_i64, toNat_ofInt64, Nat.min_eq_left, Int.toNat_of_nonneg, hcd, hwl, rmlG, rmaG, rm0G, h5, hcv, ea, a1, a3]
          refine hrow.app (BitVec.ofNat 32 (extN (M1.load (lv vals o.a) 1).toNat 8)) hvl2 fun v' H' hrow' => ?_
          simp (disch := omega) only [push_cast, simprocAttr, wrap_i64, toNat_ofInt64, Nat.min_eq_left, Int.toNat_of_nonneg, hcd]
          exact ⟨_, _, by omega, .refl _, k + 1, v', vals ++ [(BitVec.ofNat 32 (extN (M1.load (lv vals o.a) 1).toNat 8))], M1, g, rfl, by omega, hrow', by simp [hvl], hM1, z5, z6, s0, hrun, rfl⟩
        · by_cases e12 : (o.imm.toNat : Int) = 12
          · have hN1 : N = 2 := by rw [e12] at hLN; simp [loadsN] at hLN; omega
            subst hN1
            have hX : extI o.imm.toNat (M1.load (lv vals o.a) 2) = BitVec.ofNat 32 (extN (M1.load (lv vals o.a) 2).toNat 16) := by rw [extI, if_neg e11, if_pos e12]
            rw [hX] at hrun
            simp (disch := omega) only [push_cast, simprocAttr, wrap_i64, toNat_ofInt64, Nat.min_eq_left, Int.toNat_of_nonneg, e12]
            intro _
            refine (Extend_spec (M1.load (lv vals o.a) 2) 16 (by omega) (by omega)).to ?_
            simp (disch := omega) only [push_cast, simprocAttr, wrap_i64, toNat_ofInt64, Nat.min_eq_left, Int.toNat_of_nonneg, hcd, hwl, rmlG, rmaG, rm0G, h5, hcv, ea, a1, a3]
            refine hrow.app (BitVec.ofNat 32 (extN (M1.load (lv vals o.a) 2).toNat 16)) hvl2 fun v' H' hrow' => ?_
            simp (disch := omega) only [push_cast, simprocAttr, wrap_i64, toNat_ofInt64, Nat.min_eq_left, Int.toNat_of_nonneg, hcd]
            exact ⟨_, _, by omega, .refl _, k + 1, v', vals ++ [(BitVec.ofNat 32 (extN (M1.load (lv vals o.a) 2).toNat 16))], M1, g, rfl, by omega, hrow', by simp [hvl], hM1, z5, z6, s0, hrun, rfl⟩
          · have hX : extI o.imm.toNat (M1.load (lv vals o.a) N) = M1.load (lv vals o.a) N := by rw [extI, if_neg e11, if_neg e12]
            rw [hX] at hrun
            have e11' : ((o.imm.toNat : Int) = 11) = False := by simp only [e11]
            have e12' : ((o.imm.toNat : Int) = 12) = False := by simp only [e12]
            simp (disch := omega) only [push_cast, simprocAttr, wrap_i64, toNat_ofInt64, Nat.min_eq_left, Int.toNat_of_nonneg, e11', e12']
            refine ⟨fun q => absurd q (by simp), ?_⟩
            try intro _
            refine hrow.app (M1.load (lv vals o.a) N) hvl2 fun v' H' hrow' => ?_
            simp (disch := omega) only [push_cast, simprocAttr, wrap_i64, toNat_ofInt64, Nat.min_eq_left, Int.toNat_of_nonneg, hcd]
            exact ⟨_, _, by omega, .refl _, k + 1, v', vals ++ [(M1.load (lv vals o.a) N)], M1, g, rfl, by omega, hrow', by simp [hvl], hM1, z5, z6, s0, hrun, rfl⟩
      · rw [if_neg hE] at hN
        have hE' : (askedN M1.b.length (lv vals o.a) (loadsN o.imm.toNat) = 0) = False := by simp only [eq_iff_iff, iff_false]; exact hE
        have hxx := okx (.inl hcd)
        have hne : o.x ≠ -1 := by have := (exit_ok hxx).1; omega
        rw [hN] at hrun
        dsimp only at hrun
        rw [if_neg hne] at hrun
        simp (disch := omega) only [push_cast, simprocAttr, wrap_i64, toNat_ofInt64, Nat.min_eq_left, Int.toNat_of_nonneg, hcd, hwl, rmlG, rmaG, rm0G, h5, hcv, ea, a1, a3, hE']
        obtain ⟨⟨x1, x2, x3⟩, f1, f2, f3, f4, f5⟩ := ex o.x M1 0 g H _ hxx hrow z6 s0 hrun
        refine (rleave_spec b hrow.vv hlen o.x x1 x2 (hmx _) x3).to ?_
        simp only [push_cast, simprocAttr, f1, f2, f3, f4, hZ]
        exact f5 _
    · obtain ⟨a1, a2⟩ := ka (by omega)
      obtain ⟨b1, b2⟩ := kb (.inr (.inl hcd))
      have hN : stepN regs o vals M1 = (0, storeX o vals M1) := by simp [stepN, hcd]
      obtain ⟨c, pre, cap, sp, rfl, hcv⟩ := hrow.vv
      have ea := row_get pre vals o.a.toNat (by omega)
      have eb := row_get pre vals o.b.toNat (by omega)
      have a3 : o.a < (vals.length : Int) := by omega
      have b3 : o.b < (vals.length : Int) := by omega
      have hbl : M1.b.length ≤ 65536 := by have := hM1; unfold IRam.wf at this; omega
      simp (disch := omega) only [push_cast, simprocAttr, wrap_i64, toNat_ofInt64, Nat.min_eq_left, Int.toNat_of_nonneg, hcd, hwl, rmlG, rmaG, rm0G, h5, hcv, ea, a1, a3, eb, b1, b3]
      refine (rStores_spec o.imm.toNat).to ?_
      simp (disch := omega) only [push_cast, simprocAttr, wrap_i64, toNat_ofInt64, Nat.min_eq_left, Int.toNat_of_nonneg, hcd, hwl, rmlG, rmaG, rm0G, h5, hcv, ea, a1, a3, eb, b1, b3]
      refine (rAsked_spec M1.b (lv vals o.a) (storesN o.imm.toNat) hbl).to ?_
      by_cases hE : storeE o vals M1 = 0
      · have hE' : askedN M1.b.length (lv vals o.a) (storesN o.imm.toNat) = 0 := hE
        have hX : storeX o vals M1 = (if (storeR o vals M1).2 then o.y else -1, (storeR o vals M1).1) := by rw [storeX, if_pos hE]
        rw [hX] at hN
        rw [hE']
        obtain ⟨N, hLN⟩ : ∃ N : Nat, storesN o.imm.toNat = N := ⟨(storesN o.imm.toNat).toNat, by unfold askedN at hE'; split at hE' <;> omega⟩
        have hSR : storeR o vals M1 = M1.store (lv vals o.a) N (lv vals o.b) := by rw [storeR, hLN]; rfl
        rw [hLN] at hE' ⊢
        rw [hSR] at hN
        have hst := fun H : Heap => rStore_spec (G := G) (h := H) hM1 (lv vals o.a) N (lv vals o.b) hE'
        have hwf2 := store_wf hM1 (w := lv vals o.b) hE'
        simp (disch := omega) only [push_cast, simprocAttr, wrap_i64, toNat_ofInt64, Nat.min_eq_left, Int.toNat_of_nonneg, hcd, hwl, rmlG, rmaG, rm0G, h5, hcv, ea, a1, a3, eb, b1, b3]
        generalize M1.store (lv vals o.a) N (lv vals o.b) = S at hN hst hwf2
        obtain ⟨M2, hit⟩ := S
        dsimp only at hN hst hwf2
        have spl : splice [AV.nils, AV.nils, AV.nils] 0 M2.cells = M2.cells := splice_all' rfl
        have spl1 : splice M1.cells 0 M2.cells = M2.cells := splice_all' rfl
        refine ⟨?_, ?_⟩
        · refine (hst _).to ?_
          simp (disch := omega) only [push_cast, simprocAttr, wrap_i64, toNat_ofInt64, Nat.min_eq_left, Int.toNat_of_nonneg, hcd, hwl, rmlG, rmaG, rm0G, h5, hcv, ea, a1, a3, eb, b1, b3, spl]
          intro c14 hc14
          have n5 : c14 ≠ c5 := fun e => by rw [e, h5] at hc14; cases hc14
          have n6 : c14 ≠ c6 := fun e => by rw [e, h6] at hc14; cases hc14
          have nc : c14 ≠ c := fun e => by rw [e, hcv] at hc14; cases hc14
          have u5 : ∀ X, upd H c14 X c5 = some ⟨M1.cells, 0⟩ := fun X => by rw [upd_ne (Ne.symm n5)]; exact h5
          have uc : ∀ X, upd H c14 X c = some ⟨pre ++ wds vals, sp⟩ := fun X => by rw [upd_ne (Ne.symm nc)]; exact hcv
          have r1 := hrow.alloc ⟨M2.cells, 0⟩ hc14
          have q5 : upd g c14 ⟨M2.cells, 0⟩ c5 = some ⟨M1.cells, 0⟩ := by rw [upd_ne (Ne.symm n5)]; exact z5
          have r2 := r1.set ⟨M2.cells, 0⟩ q5
          have q6 : upd (upd g c14 ⟨M2.cells, 0⟩) c5 ⟨M2.cells, 0⟩ c6 = some ⟨Z, 0⟩ := by rw [upd_ne n65, upd_ne (Ne.symm n6)]; exact z6
          have q7 : upd (upd g c14 ⟨M2.cells, 0⟩) c5 ⟨M2.cells, 0⟩ c5 = some ⟨M2.cells, 0⟩ := upd_same _ _ _
          have gn : g c14 = none := by
            cases e : g c14 with
            | none => rfl
            | some y => have := hrow.sub c14 y e; rw [hc14] at this; cases this
          have qs : Sub h (upd (upd g c14 ⟨M2.cells, 0⟩) c5 ⟨M2.cells, 0⟩) := (s0.alloc gn).set hc5
          cases hit with
          | false =>
            simp (disch := omega) only [push_cast, simprocAttr, wrap_i64, toNat_ofInt64, Nat.min_eq_left, Int.toNat_of_nonneg, hcd, hwl, rmlG, rmaG, rm0G, h5, hcv, ea, a1, a3, eb, b1, b3, u5, uc, spl, spl1]
            rw [if_neg (by simp)] at hN
            rw [hN, if_pos rfl] at hrun
            refine r2.app 0 hvl2 fun v' H' hrow' => ?_
            simp (disch := omega) only [push_cast, simprocAttr, wrap_i64, toNat_ofInt64, Nat.min_eq_left, Int.toNat_of_nonneg, hcd]
            exact ⟨_, _, by omega, .refl _, k + 1, v', vals ++ [0], M2, _, rfl, by omega, hrow', by simp [hvl], hwf2, q7, q6, qs, hrun, rfl⟩
          | true =>
            simp (disch := omega) only [push_cast, simprocAttr, wrap_i64, toNat_ofInt64, Nat.min_eq_left, Int.toNat_of_nonneg, hcd, hwl, rmlG, rmaG, rm0G, h5, hcv, ea, a1, a3, eb, b1, b3, u5, uc, spl, spl1]
            have hxx := oky hcd
            have hne : o.y ≠ -1 := by have := (exit_ok hxx).1; omega
            rw [if_pos rfl] at hN
            rw [hN] at hrun
            dsimp only at hrun
            rw [if_neg hne] at hrun
            obtain ⟨⟨x1, x2, x3⟩, f1, f2, f3, f4, f5⟩ := ex o.y M2 0 _ _ _ hxx r2 q6 qs hrun
            refine (rleave_spec b r2.vv hlen o.y x1 x2 (hmx _) x3).to ?_
            simp only [push_cast, simprocAttr, f1, f2, f3, f4, hZ]
            exact f5 _
        · intro c14 hc14
          have n5 : c14 ≠ c5 := fun e => by rw [e, h5] at hc14; cases hc14
          have n6 : c14 ≠ c6 := fun e => by rw [e, h6] at hc14; cases hc14
          have nc : c14 ≠ c := fun e => by rw [e, hcv] at hc14; cases hc14
          have u5 : ∀ X, upd H c14 X c5 = some ⟨M1.cells, 0⟩ := fun X => by rw [upd_ne (Ne.symm n5)]; exact h5
          have uc : ∀ X, upd H c14 X c = some ⟨pre ++ wds vals, sp⟩ := fun X => by rw [upd_ne (Ne.symm nc)]; exact hcv
          have r1 := hrow.alloc ⟨M2.cells, 0⟩ hc14
          have q5 : upd g c14 ⟨M2.cells, 0⟩ c5 = some ⟨M1.cells, 0⟩ := by rw [upd_ne (Ne.symm n5)]; exact z5
          have r2 := r1.set ⟨M2.cells, 0⟩ q5
          have q6 : upd (upd g c14 ⟨M2.cells, 0⟩) c5 ⟨M2.cells, 0⟩ c6 = some ⟨Z, 0⟩ := by rw [upd_ne n65, upd_ne (Ne.symm n6)]; exact z6
          have q7 : upd (upd g c14 ⟨M2.cells, 0⟩) c5 ⟨M2.cells, 0⟩ c5 = some ⟨M2.cells, 0⟩ := upd_same _ _ _
          have gn : g c14 = none := by
            cases e : g c14 with
            | none => rfl
            | some y => have := hrow.sub c14 y e; rw [hc14] at this; cases this
          have qs : Sub h (upd (upd g c14 ⟨M2.cells, 0⟩) c5 ⟨M2.cells, 0⟩) := (s0.alloc gn).set hc5
          simp (disch := omega) only [push_cast, simprocAttr, wrap_i64, toNat_ofInt64, Nat.min_eq_left, Int.toNat_of_nonneg, hcd, hwl, rmlG, rmaG, rm0G, h5, hcv, ea, a1, a3, eb, b1, b3, u5, uc, spl, spl1]
          refine (hst _).to ?_
          cases hit with
          | false =>
            simp (disch := omega) only [push_cast, simprocAttr, wrap_i64, toNat_ofInt64, Nat.min_eq_left, Int.toNat_of_nonneg, hcd, hwl, rmlG, rmaG, rm0G, h5, hcv, ea, a1, a3, eb, b1, b3, u5, uc, spl, spl1]
            rw [if_neg (by simp)] at hN
            rw [hN, if_pos rfl] at hrun
            refine r2.app 0 hvl2 fun v' H' hrow' => ?_
            simp (disch := omega) only [push_cast, simprocAttr, wrap_i64, toNat_ofInt64, Nat.min_eq_left, Int.toNat_of_nonneg, hcd]
            exact ⟨_, _, by omega, .refl _, k + 1, v', vals ++ [0], M2, _, rfl, by omega, hrow', by simp [hvl], hwf2, q7, q6, qs, hrun, rfl⟩
          | true =>
            simp (disch := omega) only [push_cast, simprocAttr, wrap_i64, toNat_ofInt64, Nat.min_eq_left, Int.toNat_of_nonneg, hcd, hwl, rmlG, rmaG, rm0G, h5, hcv, ea, a1, a3, eb, b1, b3, u5, uc, spl, spl1]
            have hxx := oky hcd
            have hne : o.y ≠ -1 := by have := (exit_ok hxx).1; omega
            rw [if_pos rfl] at hN
            rw [hN] at hrun
            dsimp only at hrun
            rw [if_neg hne] at hrun
            obtain ⟨⟨x1, x2, x3⟩, f1, f2, f3, f4, f5⟩ := ex o.y M2 0 _ _ _ hxx r2 q6 qs hrun
            refine (rleave_spec b r2.vv hlen o.y x1 x2 (hmx _) x3).to ?_
            simp only [push_cast, simprocAttr, f1, f2, f3, f4, hZ]
            exact f5 _
      · have hX : storeX o vals M1 = (o.x, M1) := by rw [storeX, if_neg hE]
        rw [hX] at hN
        have hE' : (askedN M1.b.length (lv vals o.a) (storesN o.imm.toNat) = 0) = False := by simp only [eq_iff_iff, iff_false]; exact hE
        have hxx := okx (.inr (.inl hcd))
        have hne : o.x ≠ -1 := by have := (exit_ok hxx).1; omega
        rw [hN] at hrun
        dsimp only at hrun
        rw [if_neg hne] at hrun
        simp (disch := omega) only [push_cast, simprocAttr, wrap_i64, toNat_ofInt64, Nat.min_eq_left, Int.toNat_of_nonneg, hcd, hwl, rmlG, rmaG, rm0G, h5, hcv, ea, a1, a3, eb, b1, b3, hE']
        obtain ⟨⟨x1, x2, x3⟩, f1, f2, f3, f4, f5⟩ := ex o.x M1 0 g H _ hxx hrow z6 s0 hrun
        refine (rleave_spec b hrow.vv hlen o.x x1 x2 (hmx _) x3).to ?_
        simp only [push_cast, simprocAttr, f1, f2, f3, f4, hZ]
        exact f5 _
    · obtain ⟨a1, a2⟩ := ka (by omega)
      obtain ⟨b1, b2⟩ := kb (.inr (.inr hcd))
      have hN : stepN regs o vals M1 = (0, if takenN o.imm.toNat (lv vals o.a) (lv vals o.b) then -1 else o.x, M1) := by simp [stepN, hcd]
      obtain ⟨c, pre, cap, sp, rfl, hcv⟩ := hrow.vv
      have ea := row_get pre vals o.a.toNat (by omega)
      have eb := row_get pre vals o.b.toNat (by omega)
      have a3 : o.a < (vals.length : Int) := by omega
      have b3 : o.b < (vals.length : Int) := by omega
      simp (disch := omega) only [push_cast, simprocAttr, wrap_i64, toNat_ofInt64, Nat.min_eq_left, Int.toNat_of_nonneg, hcd, hwl, rmlG, rmaG, rm0G, h5, hcv, ea, a1, a3, eb, b1, b3]
      refine (rTaken_spec o.imm.toNat (lv vals o.a) (lv vals o.b) (k6 hcd)).to ?_
      cases hT : takenN o.imm.toNat (lv vals o.a) (lv vals o.b) with
      | true =>
        rw [hT, if_pos rfl] at hN
        rw [hN, if_pos rfl] at hrun
        simp (disch := omega) only [push_cast, simprocAttr, wrap_i64, toNat_ofInt64, Nat.min_eq_left, Int.toNat_of_nonneg, hcd, hwl, rmlG, rmaG, rm0G, h5, hcv, ea, a1, a3, eb, b1, b3]
        refine hrow.app 0 hvl2 fun v' H' hrow' => ?_
        simp (disch := omega) only [push_cast, simprocAttr, wrap_i64, toNat_ofInt64, Nat.min_eq_left, Int.toNat_of_nonneg, hcd]
        exact ⟨_, _, by omega, .refl _, k + 1, v', vals ++ [0], M1, g, rfl, by omega, hrow', by simp [hvl], hM1, z5, z6, s0, hrun, rfl⟩
      | false =>
        rw [hT, if_neg (by simp)] at hN
        simp (disch := omega) only [push_cast, simprocAttr, wrap_i64, toNat_ofInt64, Nat.min_eq_left, Int.toNat_of_nonneg, hcd, hwl, rmlG, rmaG, rm0G, h5, hcv, ea, a1, a3, eb, b1, b3]
        have hxx := okx (.inr (.inr hcd))
        have hne : o.x ≠ -1 := by have := (exit_ok hxx).1; omega
        rw [hN] at hrun
        dsimp only at hrun
        rw [if_neg hne] at hrun
        obtain ⟨⟨x1, x2, x3⟩, f1, f2, f3, f4, f5⟩ := ex o.x M1 0 g H _ hxx hrow z6 s0 hrun
        refine (rleave_spec b hrow.vv hlen o.x x1 x2 (hmx _) x3).to ?_
        simp only [push_cast, simprocAttr, f1, f2, f3, f4, hZ]
        exact f5 _
  · obtain rfl : k = b.ops.length := by omega
    rw [List.drop_of_length_le (Nat.le_refl _), runN] at hrun
    have h5 := hrow.get z5
    have h6 := hrow.get z6
    have hlast : b.exit b.last b.ops.length = true := by
      simp only [IBk.right, Bool.and_eq_true] at hright
      exact hright.2
    obtain ⟨x1, x2, x3⟩ := okEx_of hright hlast (m := vals.length) (by omega)
    obtain ⟨f1, f2, f3, f4, f5⟩ := fin H (leaveR (b.ex b.last.toNat) regs vals) (leaveP (b.ex b.last.toNat) vals) (b.ex b.last.toNat).done (b.ex b.last.toNat).why b.last M1 (by rw [leaveR, foldR_len, hlen]) h6 (fun c y hc => hrow.sub c y (s0 c y hc)) (by simp only [IBk.outOf, IBk.exitOf, hrun, Option.getD_none]) (by rw [IBk.ramOf, hrun])
    simp only [push_cast, simprocAttr, h5, rmaG, rmlG]
    refine (rleave_spec b hrow.vv hlen b.last x1 x2 (hmx _) x3).to ?_
    simp only [push_cast, simprocAttr, f1, f2, f3, f4, hZ]
    exact f5 _
end
end Go.Ab
