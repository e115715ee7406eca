/- The statement ForwardSameSaid, from the contract of its function. -/
import Derived.Test.YtfgooaploagiaaaGreatPF6
import Derived.ProofKit
import Derived.OpenShut
import Derived.ShutString
import Derived.ChangeOld
import Derived.Below
import Derived.Test.YtfgooaploagiaaaGreatRows
import Derived.WalkKit
set_option linter.unusedSimpArgs false
set_option linter.unusedVariables false
set_option maxRecDepth 10000
section
namespace Go.Ab
open Go.Proofs
variable {G : Glo} {h : Heap}
def RowV (g : Heap) (vv : AV) (vals : List (BitVec 32)) (H : Heap) : Prop := ∃ c pre cap sp, vv = .sl c (List.length pre) vals.length cap ∧ g c = none ∧ cap ≤ vals.length + sp ∧ H = upd g c ⟨pre ++ wds vals, sp⟩
theorem RowV.vv {g H : Heap} {vv : AV} {vals : List (BitVec 32)} (hr : RowV g vv vals H) : VV H vv vals := by
 obtain ⟨c, pre, cap, sp, h1, h2, h3, rfl⟩ := hr
 exact ⟨c, pre, cap, sp, h1, upd_same _ _ _⟩
theorem RowV.app {g H : Heap} {vv : AV} {vals : List (BitVec 32)} (hr : RowV g vv vals H) (w : BitVec 32) (hn : vals.length ≤ 1000) {Q : AV → Heap → Prop} (hq : ∀ v' H', RowV g v' (vals ++ [w]) H' → Q v' H') : appQ 1 4 1 [.int .u32 w.toNat] vv H Q := by
 obtain ⟨c, pre, cap, sp, rfl, h2, h3, rfl⟩ := hr
 have ho : Own 1 g (.sl c pre.length vals.length cap) (wds vals) vals.length (upd g c ⟨pre ++ wds vals, sp⟩) := .row c vals.length cap pre (wds vals) sp h2 (by simp [wds]) (by omega)
 refine ho.app (m := 1) rfl (by omega) (by omega) fun v' h' ho2 => ?_
 have hX : wds vals ++ [AV.int .u32 w.toNat] = wds (vals ++ [w]) := by simp [wds]
 have hN : vals.length + 1 = (vals ++ [w]).length := by simp
 rw [hX, hN] at ho2
 generalize (vals ++ [w]) = U at ho2 hq hN
 generalize hU : wds U = X at ho2
 generalize hL : U.length = N at ho2
 cases ho2 with
 | nil => omega
 | row c' _ cap' pre' cells sp' hb hl hc => exact hq _ _ ⟨c', pre', cap', sp', by rw [hL], hb, by rw [hL]; simpa using hc, by rw [hU]⟩
theorem RowV.get {g H : Heap} {vv : AV} {vals : List (BitVec 32)} (hr : RowV g vv vals H) {b : Nat} {x : Blk} (hb : g b = some x) : H b = some x := by
 obtain ⟨c, pre, cap, sp, rfl, h2, h3, rfl⟩ := hr
 rw [upd_ne (fun e => by rw [e, h2] at hb; cases hb)]
 exact hb
theorem RowV.set {g H : Heap} {vv : AV} {vals : List (BitVec 32)} (hr : RowV g vv vals H) {b : Nat} {x : Blk} (y : Blk) (hb : g b = some x) : RowV (upd g b y) vv vals (upd H b y) := by
 obtain ⟨c, pre, cap, sp, rfl, h2, h3, rfl⟩ := hr
 have hne : c ≠ b := fun e => by rw [e, hb] at h2; cases h2
 exact ⟨c, pre, cap, sp, rfl, by rw [upd_ne hne]; exact h2, h3, upd_comm hne⟩
theorem RowV.sub {g H : Heap} {vv : AV} {vals : List (BitVec 32)} (hr : RowV g vv vals H) : Sub g H := by
 obtain ⟨c, pre, cap, sp, rfl, h2, h3, rfl⟩ := hr
 exact (Sub.refl g).alloc h2
theorem RowV.alloc {g H : Heap} {vv : AV} {vals : List (BitVec 32)} (hr : RowV g vv vals H) {b : Nat} (y : Blk) (hb : H b = none) : RowV (upd g b y) vv vals (upd H b y) := by
 obtain ⟨c, pre, cap, sp, rfl, h2, h3, rfl⟩ := hr
 have hne : c ≠ b := fun e => by rw [e, upd_same] at hb; cases hb
 exact ⟨c, pre, cap, sp, rfl, by rw [upd_ne hne]; exact h2, h3, upd_comm hne⟩
theorem foldR_app (vals : List (BitVec 32)) (w : BitVec 32) (m : List IVl) (regs : List (BitVec 32)) (hm : ∀ v ∈ m, 0 ≤ v.val ∧ v.val < vals.length) : foldR (vals ++ [w]) m regs = foldR vals m regs := by
 induction m generalizing regs with
 | nil => rfl
 | cons v r ih =>
  have e1 : ∀ u, foldR u (v :: r) regs = foldR u r (regs.set v.reg.toNat (lv u v.val)) := fun _ => rfl
  have hv := hm v (by simp)
  have e2 : lv (vals ++ [w]) v.val = lv vals v.val := by
   simp only [lv, List.getD_eq_getElem?_getD]
   rw [List.getElem?_append_left (by omega)]
  rw [e1, e1, e2]
  exact ih _ fun u hu => hm u (by simp [hu])
theorem leave_app {e : IEx} {vals : List (BitVec 32)} (he : okEx e vals.length) (w : BitVec 32) (regs : List (BitVec 32)) : leaveR e regs (vals ++ [w]) = leaveR e regs vals ∧ leaveP e (vals ++ [w]) = leaveP e vals := by
 refine ⟨foldR_app vals w e.map regs fun v hv => ?_, ?_⟩
 ·obtain ⟨i, hi, rfl⟩ := List.getElem_of_mem hv
  have := he.1 i hi
  simp only [IEx.vl, List.getD_eq_getElem?_getD, List.getElem?_eq_getElem hi, Option.getD_some] at this
  exact this.1
 ·unfold leaveP
  split
  ·rfl
  ·rename_i ht
   have := he.2.resolve_left ht
   simp only [lv, List.getD_eq_getElem?_getD]
   rw [List.getElem?_append_left (by omega)]
theorem store_wf {M : IRam} (hM : M.wf) {addr : BitVec 32} {n : Nat} {w : BitVec 32} (hz : askedN M.b.length addr n = 0) : (M.store addr n w).1.wf := by
 have hH : hasN M.b.length addr n = true := by unfold askedN at hz; split at hz; omega; split at hz; omega; split at hz; assumption; omega
 simp only [hasN, Bool.and_eq_true, decide_eq_true_eq] at hH
 obtain ⟨k, hk⟩ : ∃ k, addr.toNat - 2147483648 = k := ⟨_, rfl⟩
 have hl := put_len M k (leB w n) (by rw [leB_len]; omega)
 have hw : (M.put k (leB w n)).w = M.w := rfl
 have hg : (M.put k (leB w n)).g = M.g := rfl
 unfold IRam.store
 rw [hk]
 unfold IRam.wf at hM ⊢
 dsimp only
 split
 ·simp only [List.length_set]; rw [hl, hw, hg]; exact hM
 ·rw [hl, hw, hg]; exact hM
theorem step_wf {M : IRam} (hM : M.wf) (regs : List (BitVec 32)) (o : IOp) (vals : List (BitVec 32)) : (stepN regs o vals M).2.2.wf := by
 unfold stepN
 split
 ·exact hM
 ·split
  ·split <;> exact hM
  ·split
   ·unfold storeX
    split
    ·rename_i hE
     simp only [storeR]
     have hz := hE
     unfold storeE at hz
     obtain ⟨N, hN⟩ : ∃ N : Nat, storesN o.imm.toNat = N := ⟨(storesN o.imm.toNat).toNat, by unfold askedN at hz; split at hz <;> omega⟩
     rw [hN] at hz ⊢
     exact store_wf hM hz
    ·exact hM
   ·split
    ·exact hM
    ·split <;> exact hM
def rOutOf (b : IBk) (regs : List (BitVec 32)) (M : IRam) : List AV := b.outOf regs M ++ (b.ramOf regs M).cells
section
variable {M : IRam} {b : IBk} {regs : List (BitVec 32)}
theorem rDo_spec (hM : M.wf) (hc : b.check = 0) (hlen : regs.length = 32) (hm : ∀ e ∈ b.exits, e.map.length ≤ 1000) :
  Spec Tryz.prog G 22 [.agg b.cells, .agg (wds regs), ramV M] h (Is (.agg (rOutOf b regs M)) h) := by
 have hwl : (wds regs).length = 32 := by simp [wds, hlen]
 have hpa : partOf (wds regs) 0 (some 32) = some (.agg (wds regs)) := partOf_all hwl
 have bpa : partOf b.cells 0 (some 4) = some (.agg b.cells) := partOf_all rfl
 have rmlG : ∀ M : IRam, M.cells.length = 3 := fun _ => rfl
 have rmaG : ∀ M : IRam, partOf M.cells 0 (some 3) = some (.agg M.cells) := fun M => partOf_all rfl
 have rm0G : ∀ M : IRam, M.cells[0]? = some (byt M.b) := fun _ => rfl
 have hright := check_right hc
 have hol : b.ops.length ≤ 512 := by
  unfold IBk.check IBk.long at hc
  split at hc
  ·cases hc
  ·rename_i hl; simp only [Bool.or_eq_true, decide_eq_true_eq] at hl; omega
 have hmx : ∀ n, (b.ex n).map.length ≤ 1000 := fun n => getD_map hm
 refine Spec.is C22ok rfl ?_
 simp only [push_cast, simprocAttr, hwl, rmlG]
 intro c5 hc5 c6 hc6
 obtain ⟨n65, hc6h⟩ := upd_none hc6
 obtain ⟨g0, hg0⟩ : ∃ g0, upd (upd h c5 ⟨M.cells, 0⟩) c6 ⟨[.int .u32 0, .int .u32 0, .int .u32 0, .int .u32 0, .int .u32 0, .int .u32 0, .int .u32 0, .int .u32 0, .int .u32 0, .int .u32 0, .int .u32 0, .int .u32 0, .int .u32 0, .int .u32 0, .int .u32 0, .int .u32 0, .int .u32 0, .int .u32 0, .int .u32 0, .int .u32 0, .int .u32 0, .int .u32 0, .int .u32 0, .int .u32 0, .int .u32 0, .int .u32 0, .int .u32 0, .int .u32 0, .int .u32 0, .int .u32 0, .int .u32 0, .int .u32 0, .int .u32 0, .int .i64 0, .int .i64 0, .int .i64 0, .nils, .nils, .nils], 0⟩ = g0 := ⟨_, rfl⟩
 have z6 : ∃ Z : List AV, Z.length = 39 ∧ g0 c6 = some ⟨Z, 0⟩ := ⟨_, rfl, by rw [← hg0, upd_same]⟩
 have z5 : g0 c5 = some ⟨M.cells, 0⟩ := by rw [← hg0, upd_ne (Ne.symm n65), upd_same]
 have s0 : Sub h g0 := hg0 ▸ ((Sub.refl h).alloc hc5).alloc hc6
 rw [hg0]
 clear hg0 hc6
 obtain ⟨Z, hZ, z6⟩ := z6
 intro c7 hc7
 have fin : ∀ (H2 : Heap) (R : List (BitVec 32)) (pc : BitVec 32) (d y n : Int) (M2 : IRam), R.length = 32 → H2 c6 = some ⟨Z, 0⟩ → Sub h H2 → b.outOf regs M = outC R pc d y n → b.ramOf regs M = M2 →
   (H2 c6 = some ⟨Z, 0⟩ ∧ (rOut R pc d y n M2).length = 39 ∧ splice Z 0 (rOut R pc d y n M2) = rOut R pc d y n M2 ∧ partOf (rOut R pc d y n M2) 0 (some 39) = some (.agg (rOutOf b regs M)) ∧ ∀ X, Sub h (upd H2 c6 X)) := by
  intro H2 R pc d y n M2 hR h6 hs hO hM2
  exact ⟨h6, oT_len hR (rmlG _), oT_put hR (rmlG _) Z hZ, by rw [rOut, oT_all hR (rmlG _), rOutOf, hO, hM2]; rfl, fun X => hs.set hc6h⟩
 refine lpc.rel [3, 4, 5, 6, 7, 8] (fun m ρ H => ∃ k vv vals M1 g, m = b.ops.length - k ∧ k ≤ b.ops.length ∧ RowV g vv vals H ∧ vals.length = k ∧ M1.wf ∧ g c5 = some ⟨M1.cells, 0⟩ ∧ g c6 = some ⟨Z, 0⟩ ∧ Sub h g ∧ runN regs b.ops [] M = runN regs (b.ops.drop k) vals M1 ∧
  ρ = [(3, .cp b.cells 0), (4, .cp (wds regs) 0), (5, .ptr c5 0), (6, .ptr c6 0), (7, vv), (8, .int .i64 (k : Int))]) ⟨_, 0, .sl c7 0 0 0, [], M, g0, rfl, by omega, ⟨c7, [], 0, 0, rfl, hc7, by simp, rfl⟩, rfl, hM, z5, z6, s0, rfl, rfl⟩ ?_
 clear z5 z6 s0 hc7
 rintro m _ H ⟨k, vv, vals, M1, g, rfl, hk, hrow, hvl, hM1, z5, z6, s0, hrun, rfl⟩
 simp only [push_cast, simprocAttr, hwl, rmlG]
 refine ⟨fun hk2 => ?_, fun hk2 => ?_⟩
 ·have hop : b.ops.getD k IOp.zero = b.op k := rfl
  rw [hop]
  obtain ⟨ok1, okx, oky⟩ := op_ok hright k hk2
  refine ⟨hk2, hk2, fun c9 hc9 => ?_⟩
  rw [era_none hc9]
  have h5 := hrow.get z5
  have h6 := hrow.get z6
  have hvl2 : vals.length ≤ 1000 := by omega
  obtain ⟨k0, k1, k3, k6, ka, kb⟩ := ok1
  have hdr : b.ops.drop k = b.op k :: b.ops.drop (k + 1) := by
   rw [List.drop_eq_getElem_cons hk2]; congr 1; simp [IBk.op, hk2]
  rw [hdr] at hrun
  have hsx := step_exit hright k hk2 regs vals M1
  have hsw := step_wf hM1 regs (b.op k) vals
  simp only [runN] at hrun
  have ex : ∀ (x : Int) (M2 : IRam) (w : BitVec 32) (g2 H2 : Heap) (vv2 : AV), b.exit x k = true → RowV g2 vv2 vals H2 → g2 c6 = some ⟨Z, 0⟩ → Sub h g2 → runN regs b.ops [] M = (some x, vals ++ [w], M2) →
    (0 ≤ x ∧ x < b.exits.length ∧ okEx (b.ex x.toNat) vals.length) ∧ H2 c6 = some ⟨Z, 0⟩ ∧ (rOut (leaveR (b.ex x.toNat) regs vals) (leaveP (b.ex x.toNat) vals) (b.ex x.toNat).done (b.ex x.toNat).why x M2).length = 39 ∧
    splice Z 0 (rOut (leaveR (b.ex x.toNat) regs vals) (leaveP (b.ex x.toNat) vals) (b.ex x.toNat).done (b.ex x.toNat).why x M2) = rOut (leaveR (b.ex x.toNat) regs vals) (leaveP (b.ex x.toNat) vals) (b.ex x.toNat).done (b.ex x.toNat).why x M2 ∧
    partOf (rOut (leaveR (b.ex x.toNat) regs vals) (leaveP (b.ex x.toNat) vals) (b.ex x.toNat).done (b.ex x.toNat).why x M2) 0 (some 39) = some (.agg (rOutOf b regs M)) ∧ ∀ X, Sub h (upd H2 c6 X) := by
   intro x M2 w g2 H2 vv2 hx hr2 h6' hs2 hrun2
   obtain ⟨x1, x2, x3⟩ := okEx_of hright hx (m := vals.length) (by omega)
   obtain ⟨l1, l2⟩ := leave_app x3 w regs
   refine ⟨⟨x1, x2, x3⟩, fin H2 _ _ _ _ x M2 (by rw [leaveR, foldR_len, hlen]) (hr2.get h6') (fun c y hc => hr2.sub c y (hs2 c y hc)) ?_ ?_⟩
   ·simp only [IBk.outOf, IBk.exitOf, hrun2, Option.getD_some, l1, l2]
   ·rw [IBk.ramOf, hrun2]
  generalize b.op k = o at *
  have hcd : o.code = 1 ∨ o.code = 2 ∨ o.code = 3 ∨ o.code = 4 ∨ o.code = 5 ∨ o.code = 6 := by omega
  rcases hcd with hcd | hcd | hcd | hcd | hcd | hcd
  ·have hi := k1 hcd
   have hN : stepN regs o vals M1 = (regs.getD o.imm.toNat 0#32, -1, M1) := by rw [stepN, if_pos hcd]
   rw [hN, if_pos rfl] at hrun
   simp (disch := omega) only [push_cast, simprocAttr, wrap_i64, toNat_ofInt64, Nat.min_eq_left, Int.toNat_of_nonneg, hcd, hwl, rmlG]
   refine ⟨by omega, by omega, ?_⟩
   refine hrow.app (regs.getD o.imm.toNat 0#32) hvl2 fun v' H' hrow' => ?_
   simp (disch := omega) only [push_cast, simprocAttr, wrap_i64, toNat_ofInt64, Nat.min_eq_left, Int.toNat_of_nonneg, hcd]
   exact ⟨_, _, by omega, .refl _, k + 1, v', vals ++ [(regs.getD o.imm.toNat 0#32)], M1, g, rfl, by omega, hrow', by simp [hvl], hM1, z5, z6, s0, hrun, rfl⟩
  ·have hN : stepN regs o vals M1 = (o.imm, -1, M1) := by simp [stepN, hcd]
   rw [hN, if_pos rfl] at hrun
   simp (disch := omega) only [push_cast, simprocAttr, wrap_i64, toNat_ofInt64, Nat.min_eq_left, Int.toNat_of_nonneg, hcd, hwl, rmlG]
   refine hrow.app o.imm hvl2 fun v' H' hrow' => ?_
   simp (disch := omega) only [push_cast, simprocAttr, wrap_i64, toNat_ofInt64, Nat.min_eq_left, Int.toNat_of_nonneg, hcd]
   exact ⟨_, _, by omega, .refl _, k + 1, v', vals ++ [o.imm], M1, g, rfl, by omega, hrow', by simp [hvl], hM1, z5, z6, s0, hrun, rfl⟩
  ·obtain ⟨a1, a2⟩ := ka (by omega)
   obtain ⟨b1, b2⟩ := kb (.inl hcd)
   have hN : stepN regs o vals M1 = (reckN o.imm.toNat (lv vals o.a) (lv vals o.b), -1, M1) := by simp [stepN, hcd]
   rw [hN, if_pos rfl] at hrun
   obtain ⟨c, pre, cap, sp, rfl, hcv⟩ := hrow.vv
   have ea := row_get pre vals o.a.toNat (by omega)
   have eb := row_get pre vals o.b.toNat (by omega)
   have a3 : o.a < (vals.length : Int) := by omega
   have b3 : o.b < (vals.length : Int) := by omega
   simp (disch := omega) only [push_cast, simprocAttr, wrap_i64, toNat_ofInt64, Nat.min_eq_left, Int.toNat_of_nonneg, hcd, hwl, rmlG, rmaG, rm0G, h5, hcv, ea, a1, a3, eb, b1, b3]
   refine (Reckon_spec o.imm.toNat (lv vals o.a) (lv vals o.b) (k3 hcd)).to ?_
   simp (disch := omega) only [push_cast, simprocAttr, wrap_i64, toNat_ofInt64, Nat.min_eq_left, Int.toNat_of_nonneg, hcd, hwl, rmlG, rmaG, rm0G, h5, hcv, ea, a1, a3, eb, b1, b3]
   refine hrow.app (reckN o.imm.toNat (lv vals o.a) (lv vals o.b)) hvl2 fun v' H' hrow' => ?_
   simp (disch := omega) only [push_cast, simprocAttr, wrap_i64, toNat_ofInt64, Nat.min_eq_left, Int.toNat_of_nonneg, hcd]
   exact ⟨_, _, by omega, .refl _, k + 1, v', vals ++ [(reckN o.imm.toNat (lv vals o.a) (lv vals o.b))], M1, g, rfl, by omega, hrow', by simp [hvl], hM1, z5, z6, s0, hrun, rfl⟩
  ·obtain ⟨a1, a2⟩ := ka (by omega)
   have hN : stepN regs o vals M1 = if loadE o vals M1 = 0 then (extI o.imm.toNat (M1.load (lv vals o.a) (loadsN o.imm.toNat).toNat), -1, M1) else (0, o.x, M1) := by simp [stepN, hcd]
   obtain ⟨c, pre, cap, sp, rfl, hcv⟩ := hrow.vv
   have ea := row_get pre vals o.a.toNat (by omega)
   have a3 : o.a < (vals.length : Int) := by omega
   have hbl : M1.b.length ≤ 65536 := by have := hM1; unfold IRam.wf at this; omega
   simp (disch := omega) only [push_cast, simprocAttr, wrap_i64, toNat_ofInt64, Nat.min_eq_left, Int.toNat_of_nonneg, hcd, hwl, rmlG, rmaG, rm0G, h5, hcv, ea, a1, a3]
   refine (rLoads_spec o.imm.toNat).to ?_
   simp (disch := omega) only [push_cast, simprocAttr, wrap_i64, toNat_ofInt64, Nat.min_eq_left, Int.toNat_of_nonneg, hcd, hwl, rmlG, rmaG, rm0G, h5, hcv, ea, a1, a3]
   refine (rAsked_spec M1.b (lv vals o.a) (loadsN o.imm.toNat) hbl).to ?_
   by_cases hE : loadE o vals M1 = 0
   ·rw [if_pos hE] at hN
    have hE' : askedN M1.b.length (lv vals o.a) (loadsN o.imm.toNat) = 0 := hE
    rw [hE']
    obtain ⟨N, hLN⟩ : ∃ N : Nat, loadsN o.imm.toNat = N := ⟨(loadsN o.imm.toNat).toNat, by unfold askedN at hE'; split at hE' <;> omega⟩
    rw [hLN] at hE' hN ⊢
    have hH : hasN M1.b.length (lv vals o.a) N = true := by unfold askedN at hE'; split at hE'; omega; split at hE'; omega; split at hE'; assumption; omega
    have hn124 : N = 1 ∨ N = 2 ∨ N = 4 := by unfold askedN at hE'; split at hE' <;> omega
    rw [hN, if_pos rfl] at hrun
    simp (disch := omega) only [push_cast, simprocAttr, wrap_i64, toNat_ofInt64, Nat.min_eq_left, Int.toNat_of_nonneg, hcd, hwl, rmlG, rmaG, rm0G, h5, hcv, ea, a1, a3]
    refine (rLoad_spec M1 (lv vals o.a) N hbl hn124 hH).to ?_
    simp (disch := omega) only [push_cast, simprocAttr, wrap_i64, toNat_ofInt64, Nat.min_eq_left, Int.toNat_of_nonneg, hcd, hwl, rmlG, rmaG, rm0G, h5, hcv, ea, a1, a3]
    simp only [Int.toNat_natCast] at hrun
    by_cases e11 : (o.imm.toNat : Int) = 11
    ·have hN1 : N = 1 := by rw [e11] at hLN; simp [loadsN] at hLN; omega
     subst hN1
     have hX : extI o.imm.toNat (M1.load (lv vals o.a) 1) = BitVec.ofNat 32 (extN (M1.load (lv vals o.a) 1).toNat 8) := by rw [extI, if_pos e11]
     rw [hX] at hrun
     simp (disch := omega) only [push_cast, simprocAttr, wrap_i64, toNat_ofInt64, Nat.min_eq_left, Int.toNat_of_nonneg, e11]
     intro _
     refine (Extend_spec (M1.load (lv vals o.a) 1) 8 (by omega) (by omega)).to ?_
     simp (disch := omega) only [push_cast, simprocAttr, wrap_i64, toNat_ofInt64, Nat.min_eq_left, Int.toNat_of_nonneg, hcd, hwl, rmlG, rmaG, rm0G, h5, hcv, ea, a1, a3]
     refine hrow.app (BitVec.ofNat 32 (extN (M1.load (lv vals o.a) 1).toNat 8)) hvl2 fun v' H' hrow' => ?_
     simp (disch := omega) only [push_cast, simprocAttr, wrap_i64, toNat_ofInt64, Nat.min_eq_left, Int.toNat_of_nonneg, hcd]
     exact ⟨_, _, by omega, .refl _, k + 1, v', vals ++ [(BitVec.ofNat 32 (extN (M1.load (lv vals o.a) 1).toNat 8))], M1, g, rfl, by omega, hrow', by simp [hvl], hM1, z5, z6, s0, hrun, rfl⟩
    ·by_cases e12 : (o.imm.toNat : Int) = 12
     ·have hN1 : N = 2 := by rw [e12] at hLN; simp [loadsN] at hLN; omega
      subst hN1
      have hX : extI o.imm.toNat (M1.load (lv vals o.a) 2) = BitVec.ofNat 32 (extN (M1.load (lv vals o.a) 2).toNat 16) := by rw [extI, if_neg e11, if_pos e12]
      rw [hX] at hrun
      simp (disch := omega) only [push_cast, simprocAttr, wrap_i64, toNat_ofInt64, Nat.min_eq_left, Int.toNat_of_nonneg, e12]
      intro _
      refine (Extend_spec (M1.load (lv vals o.a) 2) 16 (by omega) (by omega)).to ?_
      simp (disch := omega) only [push_cast, simprocAttr, wrap_i64, toNat_ofInt64, Nat.min_eq_left, Int.toNat_of_nonneg, hcd, hwl, rmlG, rmaG, rm0G, h5, hcv, ea, a1, a3]
      refine hrow.app (BitVec.ofNat 32 (extN (M1.load (lv vals o.a) 2).toNat 16)) hvl2 fun v' H' hrow' => ?_
      simp (disch := omega) only [push_cast, simprocAttr, wrap_i64, toNat_ofInt64, Nat.min_eq_left, Int.toNat_of_nonneg, hcd]
      exact ⟨_, _, by omega, .refl _, k + 1, v', vals ++ [(BitVec.ofNat 32 (extN (M1.load (lv vals o.a) 2).toNat 16))], M1, g, rfl, by omega, hrow', by simp [hvl], hM1, z5, z6, s0, hrun, rfl⟩
     ·have hX : extI o.imm.toNat (M1.load (lv vals o.a) N) = M1.load (lv vals o.a) N := by rw [extI, if_neg e11, if_neg e12]
      rw [hX] at hrun
      have e11' : ((o.imm.toNat : Int) = 11) = False := by simp only [e11]
      have e12' : ((o.imm.toNat : Int) = 12) = False := by simp only [e12]
      simp (disch := omega) only [push_cast, simprocAttr, wrap_i64, toNat_ofInt64, Nat.min_eq_left, Int.toNat_of_nonneg, e11', e12']
      refine ⟨fun q => absurd q (by simp), ?_⟩
      try intro _
      refine hrow.app (M1.load (lv vals o.a) N) hvl2 fun v' H' hrow' => ?_
      simp (disch := omega) only [push_cast, simprocAttr, wrap_i64, toNat_ofInt64, Nat.min_eq_left, Int.toNat_of_nonneg, hcd]
      exact ⟨_, _, by omega, .refl _, k + 1, v', vals ++ [(M1.load (lv vals o.a) N)], M1, g, rfl, by omega, hrow', by simp [hvl], hM1, z5, z6, s0, hrun, rfl⟩
   ·rw [if_neg hE] at hN
    have hE' : (askedN M1.b.length (lv vals o.a) (loadsN o.imm.toNat) = 0) = False := by simp only [eq_iff_iff, iff_false]; exact hE
    have hxx := okx (.inl hcd)
    have hne : o.x ≠ -1 := by have := (exit_ok hxx).1; omega
    rw [hN] at hrun
    dsimp only at hrun
    rw [if_neg hne] at hrun
    simp (disch := omega) only [push_cast, simprocAttr, wrap_i64, toNat_ofInt64, Nat.min_eq_left, Int.toNat_of_nonneg, hcd, hwl, rmlG, rmaG, rm0G, h5, hcv, ea, a1, a3, hE']
    obtain ⟨⟨x1, x2, x3⟩, f1, f2, f3, f4, f5⟩ := ex o.x M1 0 g H _ hxx hrow z6 s0 hrun
    refine (rleave_spec b hrow.vv hlen o.x x1 x2 (hmx _) x3).to ?_
    simp only [push_cast, simprocAttr, f1, f2, f3, f4, hZ]
    exact f5 _
  ·obtain ⟨a1, a2⟩ := ka (by omega)
   obtain ⟨b1, b2⟩ := kb (.inr (.inl hcd))
   have hN : stepN regs o vals M1 = (0, storeX o vals M1) := by simp [stepN, hcd]
   obtain ⟨c, pre, cap, sp, rfl, hcv⟩ := hrow.vv
   have ea := row_get pre vals o.a.toNat (by omega)
   have eb := row_get pre vals o.b.toNat (by omega)
   have a3 : o.a < (vals.length : Int) := by omega
   have b3 : o.b < (vals.length : Int) := by omega
   have hbl : M1.b.length ≤ 65536 := by have := hM1; unfold IRam.wf at this; omega
   simp (disch := omega) only [push_cast, simprocAttr, wrap_i64, toNat_ofInt64, Nat.min_eq_left, Int.toNat_of_nonneg, hcd, hwl, rmlG, rmaG, rm0G, h5, hcv, ea, a1, a3, eb, b1, b3]
   refine (rStores_spec o.imm.toNat).to ?_
   simp (disch := omega) only [push_cast, simprocAttr, wrap_i64, toNat_ofInt64, Nat.min_eq_left, Int.toNat_of_nonneg, hcd, hwl, rmlG, rmaG, rm0G, h5, hcv, ea, a1, a3, eb, b1, b3]
   refine (rAsked_spec M1.b (lv vals o.a) (storesN o.imm.toNat) hbl).to ?_
   by_cases hE : storeE o vals M1 = 0
   ·have hE' : askedN M1.b.length (lv vals o.a) (storesN o.imm.toNat) = 0 := hE
    have hX : storeX o vals M1 = (if (storeR o vals M1).2 then o.y else -1, (storeR o vals M1).1) := by rw [storeX, if_pos hE]
    rw [hX] at hN
    rw [hE']
    obtain ⟨N, hLN⟩ : ∃ N : Nat, storesN o.imm.toNat = N := ⟨(storesN o.imm.toNat).toNat, by unfold askedN at hE'; split at hE' <;> omega⟩
    have hSR : storeR o vals M1 = M1.store (lv vals o.a) N (lv vals o.b) := by rw [storeR, hLN]; rfl
    rw [hLN] at hE' ⊢
    rw [hSR] at hN
    have hst := fun H : Heap => rStore_spec (G := G) (h := H) hM1 (lv vals o.a) N (lv vals o.b) hE'
    have hwf2 := store_wf hM1 (w := lv vals o.b) hE'
    simp (disch := omega) only [push_cast, simprocAttr, wrap_i64, toNat_ofInt64, Nat.min_eq_left, Int.toNat_of_nonneg, hcd, hwl, rmlG, rmaG, rm0G, h5, hcv, ea, a1, a3, eb, b1, b3]
    generalize M1.store (lv vals o.a) N (lv vals o.b) = S at hN hst hwf2
    obtain ⟨M2, hit⟩ := S
    dsimp only at hN hst hwf2
    have spl : splice [AV.nils, AV.nils, AV.nils] 0 M2.cells = M2.cells := splice_all' rfl
    have spl1 : splice M1.cells 0 M2.cells = M2.cells := splice_all' rfl
    refine ⟨?_, ?_⟩
    ·refine (hst _).to ?_
     simp (disch := omega) only [push_cast, simprocAttr, wrap_i64, toNat_ofInt64, Nat.min_eq_left, Int.toNat_of_nonneg, hcd, hwl, rmlG, rmaG, rm0G, h5, hcv, ea, a1, a3, eb, b1, b3, spl]
     intro c14 hc14
     have n5 : c14 ≠ c5 := fun e => by rw [e, h5] at hc14; cases hc14
     have n6 : c14 ≠ c6 := fun e => by rw [e, h6] at hc14; cases hc14
     have nc : c14 ≠ c := fun e => by rw [e, hcv] at hc14; cases hc14
     have u5 : ∀ X, upd H c14 X c5 = some ⟨M1.cells, 0⟩ := fun X => by rw [upd_ne (Ne.symm n5)]; exact h5
     have uc : ∀ X, upd H c14 X c = some ⟨pre ++ wds vals, sp⟩ := fun X => by rw [upd_ne (Ne.symm nc)]; exact hcv
     have r1 := hrow.alloc ⟨M2.cells, 0⟩ hc14
     have q5 : upd g c14 ⟨M2.cells, 0⟩ c5 = some ⟨M1.cells, 0⟩ := by rw [upd_ne (Ne.symm n5)]; exact z5
     have r2 := r1.set ⟨M2.cells, 0⟩ q5
     have q6 : upd (upd g c14 ⟨M2.cells, 0⟩) c5 ⟨M2.cells, 0⟩ c6 = some ⟨Z, 0⟩ := by rw [upd_ne n65, upd_ne (Ne.symm n6)]; exact z6
     have q7 : upd (upd g c14 ⟨M2.cells, 0⟩) c5 ⟨M2.cells, 0⟩ c5 = some ⟨M2.cells, 0⟩ := upd_same _ _ _
     have gn : g c14 = none := by
      cases e : g c14 with
      | none => rfl
      | some y => have := hrow.sub c14 y e; rw [hc14] at this; cases this
     have qs : Sub h (upd (upd g c14 ⟨M2.cells, 0⟩) c5 ⟨M2.cells, 0⟩) := (s0.alloc gn).set hc5
     cases hit with
     | false =>
      simp (disch := omega) only [push_cast, simprocAttr, wrap_i64, toNat_ofInt64, Nat.min_eq_left, Int.toNat_of_nonneg, hcd, hwl, rmlG, rmaG, rm0G, h5, hcv, ea, a1, a3, eb, b1, b3, u5, uc, spl, spl1]
      rw [if_neg (by simp)] at hN
      rw [hN, if_pos rfl] at hrun
      refine r2.app 0 hvl2 fun v' H' hrow' => ?_
      simp (disch := omega) only [push_cast, simprocAttr, wrap_i64, toNat_ofInt64, Nat.min_eq_left, Int.toNat_of_nonneg, hcd]
      exact ⟨_, _, by omega, .refl _, k + 1, v', vals ++ [0], M2, _, rfl, by omega, hrow', by simp [hvl], hwf2, q7, q6, qs, hrun, rfl⟩
     | true =>
      simp (disch := omega) only [push_cast, simprocAttr, wrap_i64, toNat_ofInt64, Nat.min_eq_left, Int.toNat_of_nonneg, hcd, hwl, rmlG, rmaG, rm0G, h5, hcv, ea, a1, a3, eb, b1, b3, u5, uc, spl, spl1]
      have hxx := oky hcd
      have hne : o.y ≠ -1 := by have := (exit_ok hxx).1; omega
      rw [if_pos rfl] at hN
      rw [hN] at hrun
      dsimp only at hrun
      rw [if_neg hne] at hrun
      obtain ⟨⟨x1, x2, x3⟩, f1, f2, f3, f4, f5⟩ := ex o.y M2 0 _ _ _ hxx r2 q6 qs hrun
      refine (rleave_spec b r2.vv hlen o.y x1 x2 (hmx _) x3).to ?_
      simp only [push_cast, simprocAttr, f1, f2, f3, f4, hZ]
      exact f5 _
    ·intro c14 hc14
     have n5 : c14 ≠ c5 := fun e => by rw [e, h5] at hc14; cases hc14
     have n6 : c14 ≠ c6 := fun e => by rw [e, h6] at hc14; cases hc14
     have nc : c14 ≠ c := fun e => by rw [e, hcv] at hc14; cases hc14
     have u5 : ∀ X, upd H c14 X c5 = some ⟨M1.cells, 0⟩ := fun X => by rw [upd_ne (Ne.symm n5)]; exact h5
     have uc : ∀ X, upd H c14 X c = some ⟨pre ++ wds vals, sp⟩ := fun X => by rw [upd_ne (Ne.symm nc)]; exact hcv
     have r1 := hrow.alloc ⟨M2.cells, 0⟩ hc14
     have q5 : upd g c14 ⟨M2.cells, 0⟩ c5 = some ⟨M1.cells, 0⟩ := by rw [upd_ne (Ne.symm n5)]; exact z5
     have r2 := r1.set ⟨M2.cells, 0⟩ q5
     have q6 : upd (upd g c14 ⟨M2.cells, 0⟩) c5 ⟨M2.cells, 0⟩ c6 = some ⟨Z, 0⟩ := by rw [upd_ne n65, upd_ne (Ne.symm n6)]; exact z6
     have q7 : upd (upd g c14 ⟨M2.cells, 0⟩) c5 ⟨M2.cells, 0⟩ c5 = some ⟨M2.cells, 0⟩ := upd_same _ _ _
     have gn : g c14 = none := by
      cases e : g c14 with
      | none => rfl
      | some y => have := hrow.sub c14 y e; rw [hc14] at this; cases this
     have qs : Sub h (upd (upd g c14 ⟨M2.cells, 0⟩) c5 ⟨M2.cells, 0⟩) := (s0.alloc gn).set hc5
     simp (disch := omega) only [push_cast, simprocAttr, wrap_i64, toNat_ofInt64, Nat.min_eq_left, Int.toNat_of_nonneg, hcd, hwl, rmlG, rmaG, rm0G, h5, hcv, ea, a1, a3, eb, b1, b3, u5, uc, spl, spl1]
     refine (hst _).to ?_
     cases hit with
     | false =>
      simp (disch := omega) only [push_cast, simprocAttr, wrap_i64, toNat_ofInt64, Nat.min_eq_left, Int.toNat_of_nonneg, hcd, hwl, rmlG, rmaG, rm0G, h5, hcv, ea, a1, a3, eb, b1, b3, u5, uc, spl, spl1]
      rw [if_neg (by simp)] at hN
      rw [hN, if_pos rfl] at hrun
      refine r2.app 0 hvl2 fun v' H' hrow' => ?_
      simp (disch := omega) only [push_cast, simprocAttr, wrap_i64, toNat_ofInt64, Nat.min_eq_left, Int.toNat_of_nonneg, hcd]
      exact ⟨_, _, by omega, .refl _, k + 1, v', vals ++ [0], M2, _, rfl, by omega, hrow', by simp [hvl], hwf2, q7, q6, qs, hrun, rfl⟩
     | true =>
      simp (disch := omega) only [push_cast, simprocAttr, wrap_i64, toNat_ofInt64, Nat.min_eq_left, Int.toNat_of_nonneg, hcd, hwl, rmlG, rmaG, rm0G, h5, hcv, ea, a1, a3, eb, b1, b3, u5, uc, spl, spl1]
      have hxx := oky hcd
      have hne : o.y ≠ -1 := by have := (exit_ok hxx).1; omega
      rw [if_pos rfl] at hN
      rw [hN] at hrun
      dsimp only at hrun
      rw [if_neg hne] at hrun
      obtain ⟨⟨x1, x2, x3⟩, f1, f2, f3, f4, f5⟩ := ex o.y M2 0 _ _ _ hxx r2 q6 qs hrun
      refine (rleave_spec b r2.vv hlen o.y x1 x2 (hmx _) x3).to ?_
      simp only [push_cast, simprocAttr, f1, f2, f3, f4, hZ]
      exact f5 _
   ·have hX : storeX o vals M1 = (o.x, M1) := by rw [storeX, if_neg hE]
    rw [hX] at hN
    have hE' : (askedN M1.b.length (lv vals o.a) (storesN o.imm.toNat) = 0) = False := by simp only [eq_iff_iff, iff_false]; exact hE
    have hxx := okx (.inr (.inl hcd))
    have hne : o.x ≠ -1 := by have := (exit_ok hxx).1; omega
    rw [hN] at hrun
    dsimp only at hrun
    rw [if_neg hne] at hrun
    simp (disch := omega) only [push_cast, simprocAttr, wrap_i64, toNat_ofInt64, Nat.min_eq_left, Int.toNat_of_nonneg, hcd, hwl, rmlG, rmaG, rm0G, h5, hcv, ea, a1, a3, eb, b1, b3, hE']
    obtain ⟨⟨x1, x2, x3⟩, f1, f2, f3, f4, f5⟩ := ex o.x M1 0 g H _ hxx hrow z6 s0 hrun
    refine (rleave_spec b hrow.vv hlen o.x x1 x2 (hmx _) x3).to ?_
    simp only [push_cast, simprocAttr, f1, f2, f3, f4, hZ]
    exact f5 _
  ·obtain ⟨a1, a2⟩ := ka (by omega)
   obtain ⟨b1, b2⟩ := kb (.inr (.inr hcd))
   have hN : stepN regs o vals M1 = (0, if takenN o.imm.toNat (lv vals o.a) (lv vals o.b) then -1 else o.x, M1) := by simp [stepN, hcd]
   obtain ⟨c, pre, cap, sp, rfl, hcv⟩ := hrow.vv
   have ea := row_get pre vals o.a.toNat (by omega)
   have eb := row_get pre vals o.b.toNat (by omega)
   have a3 : o.a < (vals.length : Int) := by omega
   have b3 : o.b < (vals.length : Int) := by omega
   simp (disch := omega) only [push_cast, simprocAttr, wrap_i64, toNat_ofInt64, Nat.min_eq_left, Int.toNat_of_nonneg, hcd, hwl, rmlG, rmaG, rm0G, h5, hcv, ea, a1, a3, eb, b1, b3]
   refine (rTaken_spec o.imm.toNat (lv vals o.a) (lv vals o.b) (k6 hcd)).to ?_
   cases hT : takenN o.imm.toNat (lv vals o.a) (lv vals o.b) with
   | true =>
    rw [hT, if_pos rfl] at hN
    rw [hN, if_pos rfl] at hrun
    simp (disch := omega) only [push_cast, simprocAttr, wrap_i64, toNat_ofInt64, Nat.min_eq_left, Int.toNat_of_nonneg, hcd, hwl, rmlG, rmaG, rm0G, h5, hcv, ea, a1, a3, eb, b1, b3]
    refine hrow.app 0 hvl2 fun v' H' hrow' => ?_
    simp (disch := omega) only [push_cast, simprocAttr, wrap_i64, toNat_ofInt64, Nat.min_eq_left, Int.toNat_of_nonneg, hcd]
    exact ⟨_, _, by omega, .refl _, k + 1, v', vals ++ [0], M1, g, rfl, by omega, hrow', by simp [hvl], hM1, z5, z6, s0, hrun, rfl⟩
   | false =>
    rw [hT, if_neg (by simp)] at hN
    simp (disch := omega) only [push_cast, simprocAttr, wrap_i64, toNat_ofInt64, Nat.min_eq_left, Int.toNat_of_nonneg, hcd, hwl, rmlG, rmaG, rm0G, h5, hcv, ea, a1, a3, eb, b1, b3]
    have hxx := okx (.inr (.inr hcd))
    have hne : o.x ≠ -1 := by have := (exit_ok hxx).1; omega
    rw [hN] at hrun
    dsimp only at hrun
    rw [if_neg hne] at hrun
    obtain ⟨⟨x1, x2, x3⟩, f1, f2, f3, f4, f5⟩ := ex o.x M1 0 g H _ hxx hrow z6 s0 hrun
    refine (rleave_spec b hrow.vv hlen o.x x1 x2 (hmx _) x3).to ?_
    simp only [push_cast, simprocAttr, f1, f2, f3, f4, hZ]
    exact f5 _
 ·obtain rfl : k = b.ops.length := by omega
  rw [List.drop_of_length_le (Nat.le_refl _), runN] at hrun
  have h5 := hrow.get z5
  have h6 := hrow.get z6
  have hlast : b.exit b.last b.ops.length = true := by
   simp only [IBk.right, Bool.and_eq_true] at hright
   exact hright.2
  obtain ⟨x1, x2, x3⟩ := okEx_of hright hlast (m := vals.length) (by omega)
  obtain ⟨f1, f2, f3, f4, f5⟩ := fin H (leaveR (b.ex b.last.toNat) regs vals) (leaveP (b.ex b.last.toNat) vals) (b.ex b.last.toNat).done (b.ex b.last.toNat).why b.last M1 (by rw [leaveR, foldR_len, hlen]) h6 (fun c y hc => hrow.sub c y (s0 c y hc)) (by simp only [IBk.outOf, IBk.exitOf, hrun, Option.getD_none]) (by rw [IBk.ramOf, hrun])
  simp only [push_cast, simprocAttr, h5, rmaG, rmlG]
  refine (rleave_spec b hrow.vv hlen b.last x1 x2 (hmx _) x3).to ?_
  simp only [push_cast, simprocAttr, f1, f2, f3, f4, hZ]
  exact f5 _
end
end Go.Ab
end
section
namespace Go.Ab
open Go.Proofs
variable {G : Glo} {h : Heap}
theorem cells_wds (ks : List CK) (r s : List AV) : ∀ (xs ys : List (BitVec 32)), xs.length = ys.length → cellsEq (List.replicate xs.length .i ++ ks) (wds xs ++ r) (wds ys ++ s) = (cellsEq ks r s).map fun t => decide (xs = ys) && t := by
 intro xs
 induction xs with
 | nil =>
  intro ys hl
  obtain rfl : ys = [] := List.length_eq_zero_iff.1 hl.symm
  simp [wds]
 | cons x xs ih =>
  intro ys hl
  cases ys with
  | nil => simp at hl
  | cons y ys =>
   have := ih ys (by simpa using hl)
   simp only [wds, List.map_cons, List.cons_append, List.length_cons, List.replicate_succ, cellsEq] at this ⊢
   rw [if_pos trivial, this]
   cases cellsEq ks r s with
   | none => rfl
   | some t =>
    simp only [Option.map_some, beq_toNat, List.cons.injEq]
    congr 1
    rw [Bool.eq_iff_iff]
    simp [and_assoc]
theorem wd_part {w : IWd} (hl : w.regs.length = 32) : partOf w.cells 0 (some 32) = some (.agg (wds w.regs)) := by
 have hw : (wds w.regs).length = 32 := by simp [wds, hl]
 have : w.cells.length = 35 := by simp [IWd.cells, hw]
 simp only [partOf]
 rw [this, if_pos (by decide), IWd.cells, List.drop_zero, List.take_append_of_le_length (by omega), List.take_of_length_le (by omega)]
theorem wd_all {w : IWd} (hl : w.regs.length = 32) : partOf w.cells 0 (some 35) = some (.agg w.cells) := partOf_all (wd_at hl).1
theorem MemTo.sub {M : IRam} {l : Pl} {H : Heap} (hn : ∀ c, l.has c → h c = none) (ho : ∀ c, ¬ l.has c → H c = h c) : Sub h H := by
 intro c x hc
 rw [ho c (fun q => by rw [hn c q] at hc; cases hc)]
 exact hc
end Go.Ab
end
section
namespace Go.Ab
open Go.Proofs
variable {G : Glo} {h : Heap}
theorem oT_reg {regs : List (BitVec 32)} (hl : regs.length = 32) {pc : BitVec 32} {d y x : Int} {T : List AV} : partOf (oT regs pc d y x T) 0 (some 32) = some (.agg (wds regs)) ∧ (oT regs pc d y x T)[32]? = some (.int .u32 (pc.toNat : Int)) ∧ (oT regs pc d y x T)[33]? = some (.int .i64 d) ∧ (oT regs pc d y x T)[34]? = some (.int .i64 y) ∧ (oT regs pc d y x T)[35]? = some (.int .i64 x) := by
 have hw : (wds regs).length = 32 := by simp [wds, hl]
 have ho := oc_len (pc := pc) (done := d) (why := y) (exit := x) hl
 obtain ⟨o1, o2, o3, o4⟩ := oc_at (pc := pc) (done := d) (why := y) (exit := x) hl
 refine ⟨?_, ?_, ?_, ?_, ?_⟩
 ·simp only [partOf]
  rw [if_pos (by simp [oT, ho]; omega), oT, outC, List.drop_zero, List.append_assoc, List.take_append_of_le_length (by omega), List.take_of_length_le (by omega)]
 all_goals rw [oT, List.getElem?_append_left (by rw [ho]; omega)]; assumption
theorem oT_ram {regs : List (BitVec 32)} (hl : regs.length = 32) {pc : BitVec 32} {d y x : Int} {M : IRam} : (oT regs pc d y x M.cells)[36]? = some (byt M.b) ∧ (oT regs pc d y x M.cells)[37]? = some (.ro (bos M.w) M.w.length) := by
 have ho := oc_len (pc := pc) (done := d) (why := y) (exit := x) hl
 refine ⟨?_, ?_⟩ <;> (rw [oT, List.getElem?_append_right (by omega), ho]; rfl)
theorem runN_wf (regs : List (BitVec 32)) : ∀ (l : List IOp) (vals : List (BitVec 32)) (M : IRam), M.wf → (runN regs l vals M).2.2.wf := by
 intro l
 induction l with
 | nil => intro vals M hM; exact hM
 | cons o r ih =>
  intro vals M hM
  have hs := step_wf hM regs o vals
  simp only [runN]
  split
  ·exact ih _ _ hs
  ·exact hs
theorem wdM_wf {w : IWd} {n : Nat} (hn : rightN n = true) (hb : w.b.length ≤ n) : (wdM w n 16).wf := by
 simp only [rightN, Bool.and_eq_true, decide_eq_true_eq] at hn
 unfold IRam.wf
 simp [wdM, wdB, wdW_len]
 omega
section
variable {b : IBk} {w : IWd} {n : Nat} {l : Pl} {M' : IRam} {Ro : List (BitVec 32)} {pc : BitVec 32} {d y x : Int}
end
end Go.Ab
end
section
namespace Go.Ab
open Go.Proofs
variable {G : Glo} {h : Heap}
theorem out_of_res (b : IBk) (regs : List (BitVec 32)) (M : IRam) : ∃ x, b.outOf regs M = outC (b.res regs M).regs (b.res regs M).pc (b.res regs M).done (b.res regs M).why x ∧ b.ramOf regs M = (b.res regs M).ram := by
 refine ⟨_, rfl, rfl⟩
end Go.Ab
end
section
namespace Go.Ab
open Go.Proofs
variable {G : Glo} {h : Heap}
theorem regs_self {r : List (BitVec 32)} (hr : r.length = 32) : aeq false [.i, .i, .i, .i, .i, .i, .i, .i, .i, .i, .i, .i, .i, .i, .i, .i, .i, .i, .i, .i, .i, .i, .i, .i, .i, .i, .i, .i, .i, .i, .i, .i] (.agg (wds r)) (.agg (wds r)) = some (.bool true) := by
 have := cells_wds [] [] [] r r rfl
 rw [hr] at this
 simp only [List.append_nil] at this
 have h3 : cellsEq [] [] [] = some true := rfl
 rw [h3] at this
 simp only [aeq]
 refine (congrArg (Option.map _) this).trans ?_
 simp
theorem rSame24_spec {R : List (BitVec 32)} {pc : BitVec 32} {d y x x' : Int} {M : IRam} (hR : R.length = 32) (hM : M.b.length ≤ 140737488355328) : Spec Tryz.prog G 21 [.agg (oT R pc d y x M.cells), .agg (oT R pc d y x' M.cells)] h (Is (.bool true) h) := by
 obtain ⟨o0, o32, o33, o34, _⟩ := oT_reg (pc := pc) (d := d) (y := y) (x := x) (T := M.cells) hR
 obtain ⟨q0, q32, q33, q34, _⟩ := oT_reg (pc := pc) (d := d) (y := y) (x := x') (T := M.cells) hR
 obtain ⟨o36, _⟩ := oT_ram (pc := pc) (d := d) (y := y) (x := x) (M := M) hR
 obtain ⟨q36, _⟩ := oT_ram (pc := pc) (d := d) (y := y) (x := x') (M := M) hR
 have hs := regs_self hR
 have hSB := SameBytes_spec (G := G) (h := h) M.b M.b hM
 rw [decide_eq_true rfl] at hSB
 generalize oT R pc d y x M.cells = O at *
 generalize oT R pc d y x' M.cells = O' at *
 refine Spec.is C21ok rfl ?_
 simp only [push_cast, simprocAttr, o0, o32, o33, o34, o36, q0, q32, q33, q34, q36, hs]
 refine hSB.to ?_
 simp only [push_cast, simprocAttr]
end Go.Ab
end
section
namespace Go.Ab
open Go.Proofs
variable {G : Glo} {h : Heap}
theorem same_out {b b1 : IBk} (hk : Kps b1 b) {regs : List (BitVec 32)} (hl : regs.length = 32) {M : IRam} (hM : M.wf) : ∃ (R : List (BitVec 32)) (pc : BitVec 32) (d y x x' : Int) (M' : IRam), rOutOf b regs M = oT R pc d y x M'.cells ∧ rOutOf b1 regs M = oT R pc d y x' M'.cells ∧ R.length = 32 ∧ M'.b.length ≤ 140737488355328 := by
 obtain ⟨x, e1, e2⟩ := out_of_res b regs M
 obtain ⟨x', q1, q2⟩ := out_of_res b1 regs M
 rw [hk.res regs hl M] at q1 q2
 have hMw : (b.res regs M).ram.wf := runN_wf regs b.ops [] _ hM
 refine ⟨(b.res regs M).regs, (b.res regs M).pc, (b.res regs M).done, (b.res regs M).why, x, x', (b.res regs M).ram, ?_, ?_, ?_, ?_⟩
 ·rw [rOutOf, e1, e2]; rfl
 ·rw [rOutOf, q1, q2]; rfl
 ·show (leaveR _ regs _).length = 32
  rw [leaveR, foldR_len, hl]
 ·unfold IRam.wf at hMw
  omega
end Go.Ab
end
section
namespace Go.Ab
open Go.Proofs
variable {G : Glo} {h : Heap}
theorem Spec.pre {P : Program} {f : FuncId} {a a' : AV} {h h1 : Heap} {Q : AV → Heap → Prop} (hl : Le a h a' h1) (hs : Spec P G f [a'] h1 Q) : Spec P G f [a] h Q := by
 intro w vs k1 k2 k3
 match vs, k3 with
 | [v], k3 =>
  obtain ⟨x, y, z⟩ := hl w v k1 (k3.2 0 a v rfl rfl)
  have hk : Keeps w h.dom w h1.dom := ⟨Nat.le_refl _, fun b _ hn => ⟨fun hd => hd (z b (Classical.not_not.1 hn)), rfl⟩, fun _ h => h⟩
  refine (hs w [v] x (k2.keep hk) (.cons y .nil)).mono ?_
  rintro e w' ⟨v', r, h', he, q, m1, m2, m3⟩
  exact ⟨v', r, h', he, q, m1, m2, ⟨m3.size, fun b hb hn => m3.blk b hb (z b hn), m3.cel, m3.os, m3.tape, m3.out⟩⟩
 | [], k3 => have := k3.1; simp at this
 | _ :: _ :: _, k3 => have := k3.1; simp at this
def VLe (a a' : AV) : Prop := ∀ (w : World) (O : Nat → Prop) (v : Value), Rep w O a v → Rep w O a' v
theorem VLe.refl (a : AV) : VLe a a := fun _ _ _ h => h
theorem VLe.nils : VLe .nils (.ro [] 0) := fun _ _ _ h => by rw [rep_nils h]; exact .roe none 0
inductive VLs : List AV → List AV → Prop
 | nil : VLs [] []
 | cons {a a' : AV} {l l' : List AV} (h : VLe a a') (hl : VLs l l') : VLs (a :: l) (a' :: l')
theorem VLs.refl (l : List AV) : VLs l l := by
 induction l with
 | nil => exact .nil
 | cons a l ih => exact .cons (VLe.refl a) ih
theorem VLs.get {l l' : List AV} (h : VLs l l') : ∀ (i : Nat) (v' : AV), l'[i]? = some v' → ∃ v, l[i]? = some v ∧ VLe v v' := by
 induction h with
 | nil => intro i v' h; simp at h
 | cons h _ ih =>
  intro i v' hv
  cases i with
  | zero => simp at hv; subst hv; exact ⟨_, rfl, h⟩
  | succ i => exact ih i v' (by simpa using hv)
theorem VLe.ro {l l' : List AV} {n : Nat} (h : VLs l l') : VLe (.ro l n) (.ro l' n) := by
 intro w O v hr
 cases hr with
 | roe a cap => cases h; exact .roe a cap
 | ro _ _ cap b o cs hlc hb hO hc hr =>
  refine .ro l' n cap b o cs hlc hb hO (fun i v' hv => ?_) (fun i v' hv => ?_)
  ·obtain ⟨v, e, _⟩ := h.get i v' hv; exact hc i v e
  ·obtain ⟨v, e, k⟩ := h.get i v' hv; exact k _ _ _ (hr i v e)
theorem VLe.cp {l l' : List AV} {n : Nat} (h : VLs l l') : VLe (.cp l n) (.cp l' n) := by
 intro w O v hr
 cases hr with
 | cp _ _ b o cs hb hO hc hr =>
  refine .cp l' n b o cs hb hO (fun i v' hv => ?_) (fun i v' hv => ?_)
  ·obtain ⟨v, e, _⟩ := h.get i v' hv; exact hc i v e
  ·obtain ⟨v, e, k⟩ := h.get i v' hv; exact k _ _ _ (hr i v e)
theorem le_v {a a' : AV} {h : Heap} (hv : VLe a a') : Le a h a' h := fun w v hw hr => ⟨hw, hv w _ v hr, fun _ e => e⟩
def W42 : IBk := ⟨[0], [⟨1, 0, 0, 1, 0, 0⟩, ⟨1, 0, 0, 2, 0, 0⟩, ⟨5, 0, 1, 18, 0, 0⟩, ⟨4, 0, 0, 13, 0, 0⟩], [⟨0, 0, -1, 1, []⟩, ⟨1, 0, -1, 4, [⟨3, 3⟩]⟩], 1⟩
theorem W42_check : W42.check = 0 := by decide
theorem W42_fw : W42.fw = ⟨[0], [⟨1, 0, 0, 1, 0, 0⟩, ⟨1, 0, 0, 2, 0, 0⟩, ⟨5, 0, 1, 18, 0, 0⟩], [⟨0, 0, -1, 1, []⟩, ⟨1, 0, -1, 4, [⟨3, 1⟩]⟩], 1⟩ := by decide
theorem W42_wf : W42.wf := by
 refine ⟨by decide, by decide, by decide, ?_, by decide, by decide, by decide, ?_⟩ <;> decide
theorem awake42_spec : Spec Tryz.prog G 24 [] h (Is (.bool true) h) := by
 refine Spec.is C24ok rfl ?_
 simp only [push_cast, simprocAttr]
 intro b hb
 refine Spec.pre (a' := bkP W42) (h1 := h) (le_trans (Le.box hb) (le_v (VLe.cp ?_))) ?_
 ·exact .cons (VLe.refl _) (.cons (VLe.refl _) (.cons (VLe.ro (.cons (VLe.refl _) (.cons (VLe.refl _) (.cons (VLe.refl _) (.cons (VLe.refl _) (.cons VLe.nils (VLs.refl _))))))) (VLs.refl _)))
 ·refine (Do_spec W42 W42_wf W42_check).to ?_
  rw [W42_fw]
  have e1 : ([⟨0, 0#32, -1, 1, []⟩, ⟨1, 0#32, -1, 4, [⟨3, 1⟩]⟩].flatMap IEx.cells)[9]? = some (vls [⟨3, 1⟩]) := rfl
  have e2 : ([⟨3, 1⟩].flatMap IVl.cells)[1]? = some (.int .i64 1) := rfl
  simp only [push_cast, simprocAttr, e1, e2]
end Go.Ab
end
section
namespace Go.Ab
open Go.Proofs
variable {G : Glo} {h : Heap}
def worldB (w : IWd) : Bool := rightN w.size && decide (w.size ≤ 1024) && decide ((w.b.length : Int) ≤ w.size) && decide (((w.regs.getD 0 0#32).toNat : Int) = 0)
theorem world42_spec (w : IWd) (hl : w.regs.length = 32) : Spec Tryz.prog G 29 [.agg w.cells] h (Is (.bool (worldB w)) h) := by
 obtain ⟨w0, w32, w33, w34, wr⟩ := wd_at hl
 have hRt := rRight10_spec (G := G) (h := h) w.size
 have hW : worldB w = (rightN w.size && decide (w.size ≤ 1024) && decide ((w.b.length : Int) ≤ w.size) && decide (((w.regs.getD 0 0#32).toNat : Int) = 0)) := rfl
 rw [hW]
 refine Spec.is C29ok rfl ?_
 simp only [push_cast, simprocAttr, w32]
 refine hRt.to ?_
 cases rightN w.size with
 | false => simp only [push_cast, simprocAttr]; try rfl
 | true =>
  by_cases z1 : w.size ≤ 1024
  ·by_cases z2 : (w.b.length : Int) ≤ w.size
   ·by_cases z3 : ((w.regs.getD 0 0#32).toNat : Int) = 0
    ·simp only [push_cast, simprocAttr, w32, w33, wr, z1, z2, z3]
     try simp [z1, z2, z3]
    ·simp only [push_cast, simprocAttr, w32, w33, wr, z1, z2, z3]
     congr 1
     simpa using z3
   ·simp only [push_cast, simprocAttr, w32, w33, wr, z1, z2]
    try simp [z1, z2]
  ·simp only [push_cast, simprocAttr, w32, w33, wr, z1]
   try simp [z1]
theorem lawFSame_spec (b : IBk) (w : IWd) (he : b.exits.length ≤ 9223372036854775807) (hl : w.regs.length = 32) : Spec Tryz.prog G 6 [.agg b.cells, .agg w.cells] h (Is (.bool true) h) := by
 obtain ⟨w0, w32, w33, w34, wr⟩ := wd_at hl
 have wp := wd_part hl
 have wa := wd_all hl
 have hL := light_spec (G := G) (h := h) b he
 have hW := world42_spec (G := G) (h := h) w hl
 have hpa : partOf b.cells 0 (some 4) = some (.agg b.cells) := partOf_all rfl
 cases hlt : b.light with
 | false =>
  rw [hlt] at hL
  refine Spec.is C6ok rfl ?_
  simp only [push_cast, simprocAttr, hpa]
  refine hL.to ?_
  simp only [push_cast, simprocAttr, hpa]
  refine awake42_spec.to ?_
  simp only [push_cast, simprocAttr]
 | true =>
  rw [hlt] at hL
  obtain ⟨hwf, ho, hx, hp, hz, hm⟩ := light_facts hlt
  have hC := rCheck_spec (G := G) (h := h) b hwf
  by_cases hc : b.check = 0
  ·rw [hc] at hC
   refine Spec.is C6ok rfl ?_
   simp only [push_cast, simprocAttr, hpa]
   refine hL.to ?_
   simp only [push_cast, simprocAttr, hpa]
   refine hC.to ?_
   simp only [push_cast, simprocAttr, wa]
   refine hW.to ?_
   cases hwb : worldB w with
   | false =>
    simp only [push_cast, simprocAttr]
    refine awake42_spec.to ?_
    simp only [push_cast, simprocAttr]
   | true =>
    simp only [worldB, Bool.and_eq_true, decide_eq_true_eq] at hwb
    obtain ⟨⟨⟨hrt, z1⟩, z2⟩, z3⟩ := hwb
    have hrt' := hrt
    simp only [rightN, Bool.and_eq_true, decide_eq_true_eq] at hrt'
    obtain ⟨n, hs⟩ : ∃ n : Nat, w.size = n := ⟨w.size.toNat, by omega⟩
    rw [hs] at hrt hrt' z1 z2
    have hn2 : n ≤ 1024 := by omega
    have hbn : w.b.length ≤ n := by omega
    have hM0 := wdM_wf (w := w) hrt hbn
    have kOwn := fun h : Heap => Own_spec (G := G) (h := h) b hwf
    have kDo := fun h : Heap => Do_spec (G := G) (h := h) b hwf hc
    have kTu := fun h : Heap => Tune_spec (G := G) (h := h) b hwf hc
    have hk1 := fw_kps hc
    have hr1 := run_kps 15 8 hc
    have hf1 := fw_kps hr1.check
    have hk2 := (run_kps 15 8 hf1.check).trans (hf1.trans hr1)
    clear hr1 hf1
    generalize b.fw = b1 at *
    generalize runP 15 8 (runP 15 8 b).fw = b2 at *
    have hw1 := hk1.nol.wf hwf
    have hw2 := hk2.nol.wf hwf
    have hsz1 := hk1.nol.size
    have hsz2 := hk2.nol.size
    have kB1 := fun h : Heap => Back_spec (G := G) (h := h) b1 hw1
    have kB2 := fun h : Heap => Back_spec (G := G) (h := h) b2 hw2
    have kC1 := fun h : Heap => rCheck_spec (G := G) (h := h) b1 hw1
    have kC2 := fun h : Heap => rCheck_spec (G := G) (h := h) b2 hw2
    rw [hk1.check] at kC1
    rw [hk2.check] at kC2
    have kS := fun h : Heap => rSize_spec (G := G) (h := h) b hwf (by omega)
    have kS1 := fun h : Heap => rSize_spec (G := G) (h := h) b1 hw1 (by omega)
    have kS2 := fun h : Heap => rSize_spec (G := G) (h := h) b2 hw2 (by omega)
    have hp1 : partOf b1.cells 0 (some 4) = some (.agg b1.cells) := partOf_all rfl
    have hp2 : partOf b2.cells 0 (some 4) = some (.agg b2.cells) := partOf_all rfl
    have hl1 : b1.cells.length = 4 := rfl
    have hl2 : b2.cells.length = 4 := rfl
    have hm0 : ∀ e ∈ b.exits, e.map.length ≤ 1000 := fun e q => Nat.le_trans (hm e q) (by decide)
    have hm1 : ∀ e ∈ b1.exits, e.map.length ≤ 1000 := fun e q => by
     obtain ⟨e', q1, q2⟩ := hk1.nol.map e q
     have := hm e' q1
     omega
    have hm2 : ∀ e ∈ b2.exits, e.map.length ≤ 1000 := fun e q => by
     obtain ⟨e', q1, q2⟩ := hk2.nol.map e q
     have := hm e' q1
     omega
    obtain ⟨R, pc, d, y, x, x', M', o1, o2, hR, hM'⟩ := same_out hk1 hl hM0
    obtain ⟨R2, pc2, d2, y2, x2, x3, M2, p1, p2, hR2, hM2⟩ := same_out hk2 hl hM0
    have kP := fun h : Heap => Pages_spec (G := G) (h := h) hl hs hrt hn2 hbn
    have kD := fun h : Heap => rDo_spec (G := G) (h := h) hM0 hc hl hm0
    have kD1 := fun h : Heap => rDo_spec (G := G) (h := h) hM0 hk1.check hl hm1
    have kD2 := fun h : Heap => rDo_spec (G := G) (h := h) hM0 hk2.check hl hm2
    have kSm1 : ∀ h : Heap, Spec Tryz.prog G 21 [.agg (rOutOf b w.regs (wdM w n 16)), .agg (rOutOf b1 w.regs (wdM w n 16))] h (Is (.bool true) h) := fun h => by rw [o1, o2]; exact rSame24_spec hR hM'
    have kSm2 : ∀ h : Heap, Spec Tryz.prog G 21 [.agg (rOutOf b w.regs (wdM w n 16)), .agg (rOutOf b2 w.regs (wdM w n 16))] h (Is (.bool true) h) := fun h => by rw [p1, p2]; exact rSame24_spec hR2 hM2
    have ol : (rOutOf b w.regs (wdM w n 16)).length = 39 := by rw [o1]; exact oT_len hR rfl
    have oa : partOf (rOutOf b w.regs (wdM w n 16)) 0 (some 39) = some (.agg (rOutOf b w.regs (wdM w n 16))) := partOf_all ol
    generalize rOutOf b w.regs (wdM w n 16) = O at *
    generalize rOutOf b1 w.regs (wdM w n 16) = O1 at *
    generalize rOutOf b2 w.regs (wdM w n 16) = O2 at *
    have rml : (wdM w n 16).cells.length = 3 := rfl
    have rma : partOf (wdM w n 16).cells 0 (some 3) = some (.agg (wdM w n 16).cells) := partOf_all rfl
    have z4 : ¬ ((b1.size : Int) > (b.size : Int)) := by omega
    have z5 : ¬ ((b2.size : Int) > (b.size : Int)) := by omega
    simp only [push_cast, simprocAttr, hpa]
    refine (kOwn _).to ?_
    simp only [push_cast, simprocAttr]
    refine (kDo _).to ?_
    simp only [push_cast, simprocAttr, hpa]
    refine (kOwn _).to ?_
    simp only [push_cast, simprocAttr]
    refine (kTu _).to ?_
    simp only [push_cast, simprocAttr]
    refine (kB1 _).to ?_
    simp only [push_cast, simprocAttr, hl1]
    intro c9 hc9
    rw [era_none hc9]
    refine (kB2 _).to ?_
    simp only [push_cast, simprocAttr, hl2]
    intro c10 hc10
    rw [era_none hc10]
    refine (kC1 _).to ?_
    simp only [push_cast, simprocAttr, hp1, hp2, hpa]
    refine (kC2 _).to ?_
    simp only [push_cast, simprocAttr, hp1, hp2, hpa]
    refine (kS1 _).to ?_
    simp only [push_cast, simprocAttr, hp1, hp2, hpa]
    refine (kS _).to ?_
    simp only [push_cast, simprocAttr, hp1, hp2, hpa, z4]
    refine (kS2 _).to ?_
    simp only [push_cast, simprocAttr, hp1, hp2, hpa]
    refine (kS _).to ?_
    simp only [push_cast, simprocAttr, hp1, hp2, hpa, z5, wa]
    refine (kP _).to ?_
    simp only [push_cast, simprocAttr, rml]
    intro c11 hc11
    rw [era_none hc11]
    simp only [push_cast, simprocAttr, wp, hpa, hp1, hp2, rma]
    refine (kD _).to ?_
    simp only [push_cast, simprocAttr, ol]
    intro c12 hc12
    rw [era_none hc12]
    simp only [push_cast, simprocAttr, wp, hpa, hp1, hp2, rma, oa]
    refine (kD1 _).to ?_
    simp only [push_cast, simprocAttr, wp, hpa, hp1, hp2, rma, oa]
    refine (kSm1 _).to ?_
    simp only [push_cast, simprocAttr, wp, hpa, hp1, hp2, rma, oa]
    refine (kD2 _).to ?_
    simp only [push_cast, simprocAttr, wp, hpa, hp1, hp2, rma, oa]
    refine (kSm2 _).to ?_
    simp only [push_cast, simprocAttr]
    refine awake42_spec.to ?_
    simp only [push_cast, simprocAttr]
  ·have hc' : (b.check != 0) = true := by simp [hc]
   refine Spec.is C6ok rfl ?_
   simp only [push_cast, simprocAttr, hpa]
   refine hL.to ?_
   simp only [push_cast, simprocAttr, hpa]
   refine hC.to ?_
   simp only [push_cast, simprocAttr, hc']
   refine awake42_spec.to ?_
   simp only [push_cast, simprocAttr]
end Go.Ab
end
section
namespace Go.Ab
open Go.ChangeShapes Go.WideShapes Go.ChangeAt Go.RowKit
/-! From what a row reads to what is known. -/
inductive TD where
 | b
 | i (k : IntKind)
 | s
 | sl (e : TD)
 | st (fs : List TD)
 | ar (n : Nat) (e : TD)
 deriving Inhabited
def tdFields (P : Program) (rec : TypeId → Option TD) : Nat → List Field → Option (List TD)
 | _, [] => some []
 | n, f :: r => match rec f.type with
  | some td => if f.offset = n then (tdFields P rec (n + P.cellsOf f.type) r).map (td :: ·) else none
  | none => none
def tdOf (P : Program) : Nat → TypeId → Option TD
 | 0, _ => none
 | d + 1, t => match P.underlying t with
  | some .bool => some .b
  | some (.int k) => some (.i k)
  | some .string => some .s
  | some (.slice e) => if 0 < P.cellsOf e then (tdOf P d e).map .sl else none
  | some (.struct fs) => match tdFields P (tdOf P d) 0 fs.toList with
   | some l => if (fs.toList.map fun f => P.cellsOf f.type).sum = P.cellsOf t then some (.st l) else none
   | none => none
  | some (.array n e) => if n * P.cellsOf e = P.cellsOf t then (tdOf P d e).map (.ar n) else none
  | _ => none
inductive Dat : TD → List AV → Prop
 | b (x : Bool) : Dat .b [.bool x]
 | i (k : IntKind) (n : Int) (h : k.min ≤ n ∧ n ≤ k.max) : Dat (.i k) [.int k n]
 | s (x : ByteArray) (h : x.size ≤ maxLen) : Dat .s [.str x]
 | sl (e : TD) (ls : List (List AV)) (hl : ls.length ≤ maxLen) (h : ∀ l ∈ ls, Dat e l) : Dat (.sl e) [.ro ls.flatten ls.length]
 | st (fs : List TD) (ls : List (List AV)) (hl : ls.length = fs.length) (h : ∀ (j : Nat) f l, fs[j]? = some f → ls[j]? = some l → Dat f l) : Dat (.st fs) ls.flatten
 | ar (n : Nat) (e : TD) (ls : List (List AV)) (hl : ls.length = n) (h : ∀ l ∈ ls, Dat e l) : Dat (.ar n e) ls.flatten
def NoO : Nat → Prop := fun _ => False
section
variable {P : Program} {w : World} {H : Type} {enc : TypeId × Value → H} {base : Nat} {spare : Nat → Bool} {held : Bool}
theorem mapM_some {α β : Type} {f : α → Option β} {l : List α} {m : List β} (h : l.mapM f = some m) : l.length = m.length ∧ ∀ (i : Nat) x, l[i]? = some x → ∃ y, m[i]? = some y ∧ f x = some y := mapM_get h
theorem RepL.flatten {O : Nat → Prop} : ∀ (asz : List (List AV)) (vs : List (List Value)), asz.length = vs.length → (∀ (i : Nat) a v, asz[i]? = some a → vs[i]? = some v → RepL w O a v) → RepL w O asz.flatten vs.flatten := by
 intro asz
 induction asz with
 | nil => intro vs hl _; cases vs with
  | nil => exact .nil
  | cons _ _ => simp at hl
 | cons a r ih =>
  intro vs hl h
  cases vs with
  | nil => simp at hl
  | cons v s =>
   simp only [List.flatten_cons]
   exact (h 0 a v rfl rfl).append (ih s (by simpa using hl) fun i a v h1 h2 => h (i + 1) a v (by simpa using h1) (by simpa using h2))
theorem split_cells (n z : Nat) (cs : List Value) (h : cs.length = n * z) : ((List.range n).map fun i => (cs.drop (i * z)).take z).flatten = cs := by
 induction n generalizing cs with
 | zero => simp at h; subst h; simp
 | succ n ih =>
  rw [List.range_succ_eq_map, List.map_cons, List.map_map, List.flatten_cons]
  have hd : (cs.drop z).length = n * z := by simp [h, Nat.succ_mul]
  have := ih (cs.drop z) hd
  have hf : ((fun i => (cs.drop (i * z)).take z) ∘ Nat.succ) = fun i => ((cs.drop z).drop (i * z)).take z := by
   funext i
   simp [List.drop_drop, Nat.succ_mul, Nat.add_comm]
  rw [hf, this]
  simp
theorem split_fields : ∀ (fs : List Field) (n : Nat) (cs : List Value), (∀ (j : Nat) f, fs[j]? = some f → f.offset = n + ((fs.take j).map fun f => P.cellsOf f.type).sum) → cs.length = n + (fs.map fun f => P.cellsOf f.type).sum →
  (fs.map fun f => (cs.drop f.offset).take (P.cellsOf f.type)).flatten = cs.drop n := by
 intro fs
 induction fs with
 | nil => intro n cs _ hl; simp at hl; simp [← hl]
 | cons f r ih =>
  intro n cs ho hl
  have h0 := ho 0 f rfl
  simp at h0
  simp only [List.map_cons, List.sum_cons] at hl
  have := ih (n + P.cellsOf f.type) cs (fun j g hg => by
   have := ho (j + 1) g (by simpa using hg)
   simp only [List.take_succ_cons, List.map_cons, List.sum_cons] at this
   omega) (by omega)
  rw [List.map_cons, List.flatten_cons, this, h0, ← List.drop_drop, List.take_append_drop]
theorem tdFields_get {rec : TypeId → Option TD} : ∀ (fs : List Field) (n : Nat) (l : List TD), tdFields P rec n fs = some l →
  l.length = fs.length ∧ (∀ (j : Nat) f, fs[j]? = some f → f.offset = n + ((fs.take j).map fun f => P.cellsOf f.type).sum ∧ ∃ td, l[j]? = some td ∧ rec f.type = some td) := by
 intro fs
 induction fs with
 | nil => intro n l h; simp [tdFields] at h; subst h; exact ⟨rfl, fun j f h => by simp at h⟩
 | cons f r ih =>
  intro n l h
  simp only [tdFields] at h
  split at h
  ·rename_i td htd
   split at h
   ·rename_i ho
    obtain ⟨m, hm, rfl⟩ := Option.map_eq_some_iff.1 h
    obtain ⟨i1, i2⟩ := ih _ _ hm
    refine ⟨by simp [i1], fun j g hg => ?_⟩
    cases j with
    | zero => simp at hg; subst hg; exact ⟨by simp [ho], td, rfl, htd⟩
    | succ j =>
     obtain ⟨k1, k2⟩ := i2 j g (by simpa using hg)
     refine ⟨by rw [k1]; simp; omega, ?_⟩
     simpa using k2
   ·cases h
  ·cases h
theorem cells_at {a : Addr} {n : Nat} {cs : List Value} (h : w.cells? base a n = some cs) : cs.length = n ∧ ∀ i v, cs[i]? = some v → w.cell? (a.add i) = some v := by
 unfold World.cells? at h
 split at h
 ·obtain ⟨h1, h2⟩ := mapM_some h
  simp at h1
  refine ⟨h1.symm, fun i v hv => ?_⟩
  have hlt : i < n := by rw [h1]; exact (List.getElem?_eq_some_iff.1 hv).1
  obtain ⟨y, hy, hy'⟩ := h2 i i (by simp [hlt])
  rw [hy] at hv
  cases hv
  exact hy'
 ·cases h
theorem dat_of : ∀ (fuel : Nat) (t : TypeId) (cs : List Value) (x : DataW H × List MemPlace), DataW.trod enc P w base spare held fuel t cs = some x → ∀ (d : Nat) (td : TD), tdOf P d t = some td →
  ∃ avs, Dat td avs ∧ RepL w NoO avs cs ∧ (∀ c ∈ cs, c.oneCell' = true) := by
 intro fuel
 induction fuel with
 | zero => intro t cs x h; simp [DataW.trod] at h
 | succ fuel ih =>
  intro t cs x h d td htd
  cases d with
  | zero => simp [tdOf] at htd
  | succ d =>
   cases hu : P.underlying t with
   | none => simp [tdOf, hu] at htd
   | some u =>
    cases u <;> simp only [tdOf, hu] at htd <;> (try (simp at htd; done))
    case bool =>
     cases htd
     simp only [DataW.trod, hu] at h
     split at h <;> (try (cases h; done)) <;> rename_i h1 <;> (try (cases h1; done))
     exact ⟨_, .b _, RepL.nil.cons (.bool _), by simp [Value.oneCell']⟩
    case int k =>
     cases htd
     simp only [DataW.trod, hu] at h
     split at h <;> (try (cases h; done)) <;> rename_i h1 <;> (try (cases h1; done))
     cases h1
     split at h
     ·rename_i hk
      obtain ⟨rfl, hk2⟩ := hk
      simp [Lit.wf] at hk2
      exact ⟨_, .i _ _ hk2, RepL.nil.cons (.int _ _), by simp [Value.oneCell']⟩
     ·cases h
    case string =>
     cases htd
     simp only [DataW.trod, hu] at h
     split at h <;> (try (cases h; done)) <;> rename_i h1 <;> (try (cases h1; done))
     split at h
     ·rename_i hl
      exact ⟨_, .s _ hl, RepL.nil.cons (.str _), by simp [Value.oneCell']⟩
     ·cases h
    case slice e =>
     split at htd
     ·rename_i hz
      obtain ⟨te, hte, rfl⟩ := Option.map_eq_some_iff.1 htd
      simp only [DataW.trod, hu] at h
      split at h <;> (try (cases h; done)) <;> rename_i h1 <;> (try (cases h1; done))
      ·exact ⟨_, .sl te [] (by simp) (by simp), RepL.nil.cons (.roe none 0), by simp [Value.oneCell']⟩
      ·rename_i a len cap
       cases h1
       split at h
       ·rename_i hc
        simp only [Option.bind_eq_some_iff] at h
        obtain ⟨elems, hel, hx2⟩ := h
        obtain ⟨e1, e2⟩ := mapM_some hel
        simp at e1
        -- the elements, one by one
        have key : ∀ i, i < len → ∃ (cs : List Value) (avs : List AV), w.cells? base (a.add (i * P.cellsOf e)) (P.cellsOf e) = some cs ∧ Dat te avs ∧ RepL w NoO avs cs ∧ (∀ c ∈ cs, c.oneCell' = true) := by
         intro i hi
         obtain ⟨y, _, hy⟩ := e2 i i (by simp [hi])
         simp only [Option.bind_eq_some_iff] at hy
         obtain ⟨cs, h1, h2⟩ := hy
         obtain ⟨avs, h3, h4, h5⟩ := ih e cs y h2 d te hte
         exact ⟨cs, avs, h1, h3, h4, h5⟩
        have kall : ∃ ls : List (List AV), ls.length = len ∧ ∀ (i : Nat) l, ls[i]? = some l → ∃ cs, w.cells? base (a.add (i * P.cellsOf e)) (P.cellsOf e) = some cs ∧ Dat te l ∧ RepL w NoO l cs ∧ (∀ c ∈ cs, c.oneCell' = true) := by
         clear e1 e2 hel hc hx2
         induction len with
         | zero => exact ⟨[], rfl, fun i l h => by simp at h⟩
         | succ n ihn =>
          obtain ⟨ls, l1, l2⟩ := ihn fun i hi => key i (by omega)
          obtain ⟨cs, avs, k1, k2, k3, k4⟩ := key n (by omega)
          refine ⟨ls ++ [avs], by simp [l1], fun i l hl => ?_⟩
          by_cases hi : i < ls.length
          ·rw [List.getElem?_append_left hi] at hl
           exact l2 i l hl
          ·rw [List.getElem?_append_right (by omega)] at hl
           have : i = n := by
            have := (List.getElem?_eq_some_iff.1 hl).1
            simp at this; omega
           subst this
           rw [l1] at hl
           simp at hl
           subst hl
           exact ⟨cs, k1, k2, k3, k4⟩
        obtain ⟨ls, l1, l2⟩ := kall
        have hdat : Dat (.sl te) [.ro ls.flatten ls.length] := .sl te ls (by omega) fun l hl => by
         obtain ⟨i, hi⟩ := List.mem_iff_getElem?.1 hl
         obtain ⟨cs, _, k2, _⟩ := l2 i l hi
         exact k2
        refine ⟨_, hdat, RepL.nil.cons ?_, by simp [Value.oneCell']⟩
        rw [l1]
        by_cases h0 : len = 0
        ·subst h0
         rw [List.eq_nil_of_length_eq_zero l1]
         exact .roe _ _
        ·-- the row
         have hspot : a.spot = none := by
          obtain ⟨cs, avs, k1, k2, k3, k4⟩ := key 0 (by omega)
          obtain ⟨q1, q2⟩ := cells_at k1
          have hc0 := q2 0 _ (List.getElem?_eq_getElem (by omega))
          simp only [Nat.zero_mul] at hc0
          have : (a.add 0).add 0 = a := by simp [Addr.add]
          rw [this] at hc0
          exact World.cell?_spot hc0
         obtain ⟨b, o, sp⟩ := a
         simp only at hspot
         subst hspot
         have hlens : ∀ (i : Nat) l, ls[i]? = some l → l.length = P.cellsOf e := by
          intro i l hl
          obtain ⟨cs, k1, _, k3, _⟩ := l2 i l hl
          rw [k3.1]; exact (cells_at k1).1
         have hcell : ∀ (j : Nat) v, ls.flatten[j]? = some v → ∃ c, w.cell? ⟨b, o + j, none⟩ = some c ∧ c.oneCell' = true ∧ Rep w NoO v c := by
          have gen : ∀ (m : Nat) (ms : List (List AV)), (∀ (i : Nat) l, ms[i]? = some l → ls[m + i]? = some l) → ∀ (j : Nat) v, ms.flatten[j]? = some v → ∃ c, w.cell? ⟨b, o + (m * P.cellsOf e + j), none⟩ = some c ∧ c.oneCell' = true ∧ Rep w NoO v c := by
           intro m ms
           induction ms generalizing m with
           | nil => intro _ j v hv; simp at hv
           | cons l r ihr =>
            intro hm j v hv
            have hl := hm 0 l rfl
            simp only [Nat.add_zero] at hl
            obtain ⟨cs, k1, k2, k3, k4⟩ := l2 m l hl
            obtain ⟨q1, q2⟩ := cells_at k1
            have hll := hlens m l hl
            rw [List.flatten_cons] at hv
            by_cases hj : j < l.length
            ·rw [List.getElem?_append_left hj] at hv
             have hcs : cs[j]? = some (cs[j]'(by omega)) := List.getElem?_eq_getElem _
             have := q2 j _ hcs
             rw [Addr.add_lit, Addr.add_lit] at this
             exact ⟨_, by rw [← Nat.add_assoc]; exact this, k4 _ (List.getElem_mem _), k3.2 j v _ hv hcs⟩
            ·rw [List.getElem?_append_right (by omega)] at hv
             obtain ⟨c, z1, z2, z3⟩ := ihr (m + 1) (fun i l hl => by
              have := hm (i + 1) l (by simpa using hl)
              rwa [show m + 1 + i = m + (i + 1) by omega]) (j - l.length) v hv
             refine ⟨c, ?_, z2, z3⟩
             rw [show m * P.cellsOf e + j = (m + 1) * P.cellsOf e + (j - l.length) by rw [Nat.succ_mul]; omega]
             exact z1
          intro j v hv
          have := gen 0 ls (fun i l hl => by rwa [Nat.zero_add]) j v hv
          simpa using this
         have hb : b < w.heap.size := by
          obtain ⟨cs, avs, k1, k2, k3, k4⟩ := key 0 (by omega)
          obtain ⟨q1, q2⟩ := cells_at k1
          have hc0 := q2 0 _ (List.getElem?_eq_getElem (by omega))
          simp only [Nat.zero_mul, Addr.add_lit] at hc0
          unfold World.cell? at hc0
          cases hbb : w.heap[b]? with
          | none => simp [hbb] at hc0
          | some y => exact (Array.getElem?_eq_some_iff.1 hbb).1
         refine .ro _ _ _ b o (fun j => (w.cell? ⟨b, o + j, none⟩).getD undef) hc.2.1 hb (fun h => h) (fun j v hv => ?_) (fun j v hv => ?_)
         ·obtain ⟨c, z1, z2, _⟩ := hcell j v hv
          rw [z1]; exact ⟨rfl, z2⟩
         ·obtain ⟨c, z1, _, z3⟩ := hcell j v hv
          rw [z1]; exact z3
       ·cases h
     ·cases htd
    case struct fs =>
     split at htd
     ·rename_i l hl
      split at htd
      ·rename_i hsum
       cases htd
       simp only [DataW.trod, hu] at h
       split at h
       ·rename_i hlen
        obtain ⟨xs, hxs, _⟩ := Option.map_eq_some_iff.1 h
        obtain ⟨e1, e2⟩ := mapM_some hxs
        obtain ⟨f1, f2⟩ := tdFields_get fs.toList 0 l hl
        have key : ∀ (j : Nat) f, fs.toList[j]? = some f → ∃ td avs, l[j]? = some td ∧ Dat td avs ∧ RepL w NoO avs ((cs.drop f.offset).take (P.cellsOf f.type)) ∧ (∀ c ∈ (cs.drop f.offset).take (P.cellsOf f.type), c.oneCell' = true) := by
         intro j f hf
         obtain ⟨y, _, hy⟩ := e2 j f hf
         obtain ⟨_, td, k1, k2⟩ := f2 j f hf
         obtain ⟨avs, h3, h4, h5⟩ := ih f.type _ y hy d td k2
         exact ⟨td, avs, k1, h3, h4, h5⟩
        have kall : ∃ ls : List (List AV), ls.length = fs.toList.length ∧ ∀ (j : Nat) f a, fs.toList[j]? = some f → ls[j]? = some a → ∃ td, l[j]? = some td ∧ Dat td a ∧ RepL w NoO a ((cs.drop f.offset).take (P.cellsOf f.type)) := by
         clear e1 e2 hxs h f1 f2 hl hlen hsum
         generalize fs.toList = F at key
         induction F generalizing l with
         | nil => exact ⟨[], rfl, fun j f a h => by simp at h⟩
         | cons g r ihF =>
          obtain ⟨td, avs, k1, k2, k3, _⟩ := key 0 g rfl
          cases l with
          | nil => simp at k1
          | cons l0 lr =>
           obtain ⟨ls, m1, m2⟩ := ihF lr fun j f hf => by
            obtain ⟨td, avs, z1, z2⟩ := key (j + 1) f (by simpa using hf)
            exact ⟨td, avs, by simpa using z1, z2⟩
           refine ⟨avs :: ls, by simp [m1], fun j f a hf ha => ?_⟩
           cases j with
           | zero => simp at hf ha; subst hf; subst ha; exact ⟨td, k1, k2, k3⟩
           | succ j =>
            obtain ⟨td, z1, z2⟩ := m2 j f a (by simpa using hf) (by simpa using ha)
            exact ⟨td, by simpa using z1, z2⟩
        obtain ⟨ls, m1, m2⟩ := kall
        have hsplit := split_fields (P := P) fs.toList 0 cs (fun j f hf => (f2 j f hf).1) (by rw [hlen, hsum]; simp)
        simp only [List.drop_zero] at hsplit
        have hrep : RepL w NoO ls.flatten cs := by
         rw [← hsplit]
         refine RepL.flatten _ _ (by simp [m1]) fun j a v ha hv => ?_
         simp only [List.getElem?_map, Option.map_eq_some_iff] at hv
         obtain ⟨f, hf, rfl⟩ := hv
         obtain ⟨td, _, _, z3⟩ := m2 j f a hf ha
         exact z3
        refine ⟨ls.flatten, .st l ls (by rw [m1, f1]) fun j td a htd ha => ?_, hrep, ?_⟩
        ·have hlt : j < fs.toList.length := by rw [← m1]; exact (List.getElem?_eq_some_iff.1 ha).1
         obtain ⟨td', z1, z2, _⟩ := m2 j _ a (List.getElem?_eq_getElem hlt) ha
         rw [htd] at z1
         cases z1
         exact z2
        ·intro c hc
         rw [← hsplit] at hc
         obtain ⟨m, hm, hcm⟩ := List.mem_flatten.1 hc
         obtain ⟨f, hf, rfl⟩ := List.mem_map.1 hm
         obtain ⟨j, hj⟩ := List.mem_iff_getElem?.1 hf
         obtain ⟨_, _, _, _, _, k5⟩ := key j f hj
         exact k5 c hcm
       ·cases h
      ·cases htd
     ·cases htd
    case array n e =>
     split at htd
     ·rename_i hsz
      obtain ⟨te, hte, rfl⟩ := Option.map_eq_some_iff.1 htd
      simp only [DataW.trod, hu] at h
      split at h
      ·rename_i hlen
       obtain ⟨xs, hxs, _⟩ := Option.map_eq_some_iff.1 h
       obtain ⟨e1, e2⟩ := mapM_some hxs
       have key : ∀ i, i < n → ∃ avs, Dat te avs ∧ RepL w NoO avs ((cs.drop (i * P.cellsOf e)).take (P.cellsOf e)) ∧ (∀ c ∈ (cs.drop (i * P.cellsOf e)).take (P.cellsOf e), c.oneCell' = true) := by
        intro i hi
        obtain ⟨y, _, hy⟩ := e2 i i (by simp [hi])
        exact ih e _ y hy d te hte
       have kall : ∃ ls : List (List AV), ls.length = n ∧ ∀ (i : Nat) a, ls[i]? = some a → Dat te a ∧ RepL w NoO a ((cs.drop (i * P.cellsOf e)).take (P.cellsOf e)) := by
        clear e1 e2 hxs h hsz hlen htd hu
        induction n with
        | zero => exact ⟨[], rfl, fun i a h => by simp at h⟩
        | succ n ihn =>
         obtain ⟨ls, l1, l2⟩ := ihn fun i hi => key i (by omega)
         obtain ⟨avs, k1, k2, _⟩ := key n (by omega)
         refine ⟨ls ++ [avs], by simp [l1], fun i a ha => ?_⟩
         by_cases hi : i < ls.length
         ·rw [List.getElem?_append_left hi] at ha
          exact l2 i a ha
         ·rw [List.getElem?_append_right (by omega)] at ha
          have : i = n := by
           have := (List.getElem?_eq_some_iff.1 ha).1
           simp at this; omega
          subst this
          rw [l1] at ha
          simp at ha
          subst ha
          exact ⟨k1, k2⟩
       obtain ⟨ls, l1, l2⟩ := kall
       have hsplit := split_cells n (P.cellsOf e) cs (by rw [hlen, hsz])
       have hrep : RepL w NoO ls.flatten cs := by
        rw [← hsplit]
        refine RepL.flatten _ _ (by simp [l1]) fun j a v ha hv => ?_
        have hlt : j < n := by rw [← l1]; exact (List.getElem?_eq_some_iff.1 ha).1
        simp only [List.getElem?_map, Option.map_eq_some_iff] at hv
        obtain ⟨i, hi, rfl⟩ := hv
        rw [List.getElem?_range hlt] at hi
        cases hi
        exact (l2 j a ha).2
       refine ⟨ls.flatten, .ar n te ls l1 fun a ha => ?_, hrep, ?_⟩
       ·obtain ⟨i, hi⟩ := List.mem_iff_getElem?.1 ha
        exact (l2 i a hi).1
       ·intro c hc
        rw [← hsplit] at hc
        obtain ⟨m, hm, hcm⟩ := List.mem_flatten.1 hc
        obtain ⟨i, hi, rfl⟩ := List.mem_map.1 hm
        obtain ⟨_, _, _, k5⟩ := key i (by simpa using hi)
        exact k5 c hcm
      ·cases h
     ·cases htd
def argOf (td : TD) (avs : List AV) : AV :=
 match td with
 | .st _ | .ar _ _ => .agg avs
 | _ => avs.headD .any
theorem arg_of {r : Go.Reach} {b0 : Nat} {t : TypeId} {v : Value} {x : DataW H} {ps : List MemPlace} (hv : Value.okWide P w r b0 t v) (h : DataW.Trod enc P w base spare held t v x ps) {d : Nat} {td : TD} (htd : tdOf P d t = some td) :
  ∃ avs, Dat td avs ∧ Rep w NoO (argOf td avs) v := by
 obtain ⟨fuel, hf⟩ := h
 obtain ⟨avs, h1, h2, h3⟩ := dat_of fuel t _ _ hf d td htd
 refine ⟨avs, h1, ?_⟩
 have one : (∃ a, avs = [a]) → v.cells.toList = [v] → (match td with | .st _ | .ar _ _ => False | _ => True) → Rep w NoO (argOf td avs) v := by
  rintro ⟨a, rfl⟩ hc ht
  rw [hc] at h2
  have hr := h2.2 0 a v rfl rfl
  cases td <;> first | exact hr | exact ht.elim
 have agg : (∃ cs, v = .agg cs) → argOf td avs = .agg avs → Rep w NoO (argOf td avs) v := by
  rintro ⟨cs, rfl⟩ he
  rw [he]
  have := h2.agg h3
  simpa [Value.cells] using this
 cases d with
 | zero => simp [tdOf] at htd
 | succ d =>
  cases hu : P.underlying t with
  | none => simp [tdOf, hu] at htd
  | some u =>
   cases u <;> simp only [tdOf, hu] at htd <;> (try (simp at htd; done))
   case bool =>
    cases htd
    simp only [Value.okWide, hu, Cell.okWide] at hv
    cases h1
    refine one ⟨_, rfl⟩ ?_ trivial
    cases v <;> simp_all [Cell.ok, Value.cells]
   case int k =>
    cases htd
    obtain ⟨n, rfl⟩ := okWide_int hu hv
    cases h1
    exact one ⟨_, rfl⟩ rfl trivial
   case string =>
    cases htd
    obtain ⟨n, rfl⟩ := okWide_string hu hv
    cases h1
    exact one ⟨_, rfl⟩ rfl trivial
   case slice e =>
    split at htd
    ·obtain ⟨te, _, rfl⟩ := Option.map_eq_some_iff.1 htd
     obtain ⟨a, len, cap, rfl⟩ := okWide_slice hu hv
     cases h1
     exact one ⟨_, rfl⟩ rfl trivial
    ·cases htd
   case struct fs =>
    split at htd
    ·split at htd
     ·cases htd
      simp only [Value.okWide, hu] at hv
      obtain ⟨cs, hc, _⟩ := hv
      exact agg ⟨cs, hc⟩ rfl
     ·cases htd
    ·cases htd
   case array n e =>
    split at htd
    ·obtain ⟨te, _, rfl⟩ := Option.map_eq_some_iff.1 htd
     simp only [Value.okWide, hu] at hv
     obtain ⟨cs, hc, _⟩ := hv
     exact agg ⟨cs, hc⟩ rfl
    ·cases htd
def noG : Glo := .of fun _ => .any
theorem law_calls {f : FuncId} {args : List AV} {vs : List Value} (hs : Spec P noG f args noH (fun r _ => r = .bool true)) (hr : RepL w NoO args vs) :
  Calls P f vs.toArray w fun e w' => e = .returned (.bool true) ∧ Below w.heap.size w w' := by
 refine (hs w vs (fun b x h => by cases h) ⟨fun g => .any _, fun _ _ e => e.elim⟩ (by rw [noH_dom]; exact hr)).mono ?_
 rintro e w' ⟨v, r, h', rfl, rfl, _, h3, h4⟩
 refine ⟨by rw [rep_bool h3], ⟨h4.os, h4.tape, h4.out, h4.size, fun k hk => (h4.blk k hk rfl).2⟩⟩
end
end Go.Ab
end
section
namespace Go.Ab
theorem dat_i {k : IntKind} {l : List AV} (h : Dat (.i k) l) : ∃ n, l = [.int k n] ∧ k.min ≤ n ∧ n ≤ k.max := by
 cases h with
 | i k n h => exact ⟨n, rfl, h⟩
theorem dat_list {α : Type} {e : TD} (f : α → List AV) (ok : α → Prop) (one : ∀ l, Dat e l → ∃ x, ok x ∧ l = f x) : ∀ (ls : List (List AV)), (∀ l ∈ ls, Dat e l) →
  ∃ xs : List α, xs.length = ls.length ∧ ls.flatten = xs.flatMap f ∧ ∀ x ∈ xs, ok x := by
 intro ls
 induction ls with
 | nil => intro _; exact ⟨[], rfl, rfl, fun x h => by cases h⟩
 | cons l r ih =>
  intro h
  obtain ⟨x, hx, rfl⟩ := one l (h l (by simp))
  obtain ⟨xs, h1, h2, h3⟩ := ih fun l hl => h l (by simp [hl])
  refine ⟨x :: xs, by simp [h1], by simp [h2], fun y hy => ?_⟩
  rcases List.mem_cons.1 hy with rfl | hy
  ·exact hx
  ·exact h3 y hy
theorem dat_st {fs : List TD} {l : List AV} (h : Dat (.st fs) l) : ∃ ls : List (List AV), ls.length = fs.length ∧ l = ls.flatten ∧ ∀ (j : Nat) f l, fs[j]? = some f → ls[j]? = some l → Dat f l := by
 cases h with
 | st fs ls hl h => exact ⟨ls, hl, rfl, h⟩
theorem dat_st_nil {l : List AV} (h : Dat (.st []) l) : l = [] := by
 obtain ⟨ls, h1, rfl, _⟩ := dat_st h
 rw [List.eq_nil_of_length_eq_zero h1]; rfl
theorem dat_st_cons {f : TD} {fs : List TD} {l : List AV} (h : Dat (.st (f :: fs)) l) : ∃ a b, l = a ++ b ∧ Dat f a ∧ Dat (.st fs) b := by
 obtain ⟨ls, h1, rfl, h2⟩ := dat_st h
 cases ls with
 | nil => simp at h1
 | cons a r => exact ⟨a, r.flatten, rfl, h2 0 f a rfl rfl, .st fs r (by simpa using h1) fun j f l x y => h2 (j + 1) f l (by simpa using x) (by simpa using y)⟩
theorem dat_u8 {l : List AV} (h : Dat (.i .u8) l) : ∃ x : BitVec 8, l = [.int .u8 (x.toNat : Int)] := by
 obtain ⟨n, rfl, h1, h2⟩ := dat_i h
 simp [IntKind.min, IntKind.max, IntKind.signed, IntKind.bits] at h1 h2
 refine ⟨BitVec.ofNat 8 n.toNat, ?_⟩
 rw [BitVec.toNat_ofNat, Nat.mod_eq_of_lt (by omega), Int.toNat_of_nonneg h1]
theorem dat_u16 {l : List AV} (h : Dat (.i .u16) l) : ∃ x : BitVec 16, l = [.int .u16 (x.toNat : Int)] := by
 obtain ⟨n, rfl, h1, h2⟩ := dat_i h
 simp [IntKind.min, IntKind.max, IntKind.signed, IntKind.bits] at h1 h2
 refine ⟨BitVec.ofNat 16 n.toNat, ?_⟩
 rw [BitVec.toNat_ofNat, Nat.mod_eq_of_lt (by omega), Int.toNat_of_nonneg h1]
theorem dat_u32 {l : List AV} (h : Dat (.i .u32) l) : ∃ x : BitVec 32, l = [.int .u32 (x.toNat : Int)] := by
 obtain ⟨n, rfl, h1, h2⟩ := dat_i h
 simp [IntKind.min, IntKind.max, IntKind.signed, IntKind.bits] at h1 h2
 refine ⟨BitVec.ofNat 32 n.toNat, ?_⟩
 rw [BitVec.toNat_ofNat, Nat.mod_eq_of_lt (by omega), Int.toNat_of_nonneg h1]
theorem dat_i64 {l : List AV} (h : Dat (.i .i64) l) : ∃ n : Int, l = [.int .i64 n] ∧ -9223372036854775808 ≤ n ∧ n ≤ 9223372036854775807 := by
 obtain ⟨n, rfl, h1, h2⟩ := dat_i h
 simp [IntKind.min, IntKind.max, IntKind.signed, IntKind.bits] at h1 h2
 exact ⟨n, rfl, h1, h2⟩
theorem flatMap_one {α : Type} (f : α → AV) (l : List α) : (l.flatMap fun x => [f x]) = l.map f := by
 induction l with
 | nil => rfl
 | cons a r ih => simp [ih]
theorem dat_bytes {l : List AV} (h : Dat (.sl (.i .u8)) l) : ∃ xs : List (BitVec 8), xs.length ≤ maxLen ∧ l = [byt xs] := by
 cases h with
 | sl e ls hl h =>
  obtain ⟨xs, h1, h2, _⟩ := dat_list (fun x : BitVec 8 => [AV.int .u8 (x.toNat : Int)]) (fun _ => True) (fun l hl => by obtain ⟨x, rfl⟩ := dat_u8 hl; exact ⟨x, trivial, rfl⟩) ls h
  rw [flatMap_one] at h2
  exact ⟨xs, by omega, by rw [h2, ← h1]; rfl⟩
theorem dat_words {l : List AV} (h : Dat (.sl (.i .u32)) l) : ∃ xs : List (BitVec 32), xs.length ≤ maxLen ∧ l = [.ro (wds xs) xs.length] := by
 cases h with
 | sl e ls hl h =>
  obtain ⟨xs, h1, h2, _⟩ := dat_list (fun x : BitVec 32 => [AV.int .u32 (x.toNat : Int)]) (fun _ => True) (fun l hl => by obtain ⟨x, rfl⟩ := dat_u32 hl; exact ⟨x, trivial, rfl⟩) ls h
  rw [flatMap_one] at h2
  exact ⟨xs, by omega, by rw [h2, ← h1]; rfl⟩
theorem dat_ar32 {n : Nat} {l : List AV} (h : Dat (.ar n (.i .u32)) l) : ∃ xs : List (BitVec 32), xs.length = n ∧ l = wds xs := by
 cases h with
 | ar n e ls hl h =>
  obtain ⟨xs, h1, h2, _⟩ := dat_list (fun x : BitVec 32 => [AV.int .u32 (x.toNat : Int)]) (fun _ => True) (fun l hl => by obtain ⟨x, rfl⟩ := dat_u32 hl; exact ⟨x, trivial, rfl⟩) ls h
  rw [flatMap_one] at h2
  exact ⟨xs, by omega, h2⟩
theorem dat_sl {α : Type} {e : TD} (f : α → List AV) (ok : α → Prop) (one : ∀ l, Dat e l → ∃ x, ok x ∧ l = f x) {l : List AV} (h : Dat (.sl e) l) : ∃ xs : List α, (∀ x ∈ xs, ok x) ∧ xs.length ≤ maxLen ∧ l = [.ro (xs.flatMap f) xs.length] := by
 cases h with
 | sl e ls hl h =>
  obtain ⟨xs, h1, h2, h3⟩ := dat_list f ok one ls h
  exact ⟨xs, h3, by omega, by rw [h2, ← h1]⟩
end Go.Ab
end
section
namespace Go.Ab
def tdOp : TD := .st [.i .i64, .i .i64, .i .i64, .i .u32, .i .i64, .i .i64]
def tdVl : TD := .st [.i .i64, .i .i64]
def tdEx : TD := .st [.i .i64, .i .u32, .i .i64, .i .i64, .sl tdVl]
def tdBk : TD := .st [.sl (.i .u32), .sl tdOp, .sl tdEx, .i .i64]
theorem dat_op {l : List AV} (h : Dat tdOp l) : ∃ o : IOp, True ∧ l = o.cells := by
 obtain ⟨_, _, rfl, h1, h⟩ := dat_st_cons h
 obtain ⟨_, _, rfl, h2, h⟩ := dat_st_cons h
 obtain ⟨_, _, rfl, h3, h⟩ := dat_st_cons h
 obtain ⟨_, _, rfl, h4, h⟩ := dat_st_cons h
 obtain ⟨_, _, rfl, h5, h⟩ := dat_st_cons h
 obtain ⟨_, _, rfl, h6, h⟩ := dat_st_cons h
 obtain rfl := dat_st_nil h
 obtain ⟨a, rfl, _⟩ := dat_i64 h1
 obtain ⟨b, rfl, _⟩ := dat_i64 h2
 obtain ⟨c, rfl, _⟩ := dat_i64 h3
 obtain ⟨d, rfl⟩ := dat_u32 h4
 obtain ⟨e, rfl, _⟩ := dat_i64 h5
 obtain ⟨f, rfl, _⟩ := dat_i64 h6
 exact ⟨⟨a, b, c, d, e, f⟩, trivial, rfl⟩
theorem dat_vl {l : List AV} (h : Dat tdVl l) : ∃ v : IVl, True ∧ l = v.cells := by
 obtain ⟨_, _, rfl, h1, h⟩ := dat_st_cons h
 obtain ⟨_, _, rfl, h2, h⟩ := dat_st_cons h
 obtain rfl := dat_st_nil h
 obtain ⟨a, rfl, _⟩ := dat_i64 h1
 obtain ⟨b, rfl, _⟩ := dat_i64 h2
 exact ⟨⟨a, b⟩, trivial, rfl⟩
theorem dat_ex {l : List AV} (h : Dat tdEx l) : ∃ e : IEx, True ∧ l = e.cells := by
 obtain ⟨_, _, rfl, h1, h⟩ := dat_st_cons h
 obtain ⟨_, _, rfl, h2, h⟩ := dat_st_cons h
 obtain ⟨_, _, rfl, h3, h⟩ := dat_st_cons h
 obtain ⟨_, _, rfl, h4, h⟩ := dat_st_cons h
 obtain ⟨_, _, rfl, h5, h⟩ := dat_st_cons h
 obtain rfl := dat_st_nil h
 obtain ⟨a, rfl, _⟩ := dat_i64 h1
 obtain ⟨b, rfl⟩ := dat_u32 h2
 obtain ⟨c, rfl, _⟩ := dat_i64 h3
 obtain ⟨d, rfl, _⟩ := dat_i64 h4
 obtain ⟨m, _, _, rfl⟩ := dat_sl IVl.cells (fun _ => True) (fun l => dat_vl) h5
 exact ⟨⟨a, b, c, d, m⟩, trivial, rfl⟩
theorem dat_bk {l : List AV} (h : Dat tdBk l) : ∃ b : IBk, b.exits.length ≤ maxLen ∧ l = b.cells := by
 obtain ⟨_, _, rfl, h1, h⟩ := dat_st_cons h
 obtain ⟨_, _, rfl, h2, h⟩ := dat_st_cons h
 obtain ⟨_, _, rfl, h3, h⟩ := dat_st_cons h
 obtain ⟨_, _, rfl, h4, h⟩ := dat_st_cons h
 obtain rfl := dat_st_nil h
 obtain ⟨p, _, rfl⟩ := dat_words h1
 obtain ⟨o, _, _, rfl⟩ := dat_sl IOp.cells (fun _ => True) (fun l => dat_op) h2
 obtain ⟨e, _, he, rfl⟩ := dat_sl IEx.cells (fun _ => True) (fun l => dat_ex) h3
 obtain ⟨a, rfl, _⟩ := dat_i64 h4
 exact ⟨⟨p, o, e, a⟩, he, rfl⟩
end Go.Ab
end
section
namespace Go.Ab
def tdWd : TD := .st [.ar 32 (.i .u32), .i .i64, .sl (.i .u8), .i .u16]
theorem dat_wd {l : List AV} (h : Dat tdWd l) : ∃ w : IWd, w.regs.length = 32 ∧ l = w.cells := by
 obtain ⟨_, _, rfl, h1, h⟩ := dat_st_cons h
 obtain ⟨_, _, rfl, h2, h⟩ := dat_st_cons h
 obtain ⟨_, _, rfl, h3, h⟩ := dat_st_cons h
 obtain ⟨_, _, rfl, h4, h⟩ := dat_st_cons h
 obtain rfl := dat_st_nil h
 obtain ⟨r, hr, rfl⟩ := dat_ar32 h1
 obtain ⟨s, rfl, _⟩ := dat_i64 h2
 obtain ⟨b, _, rfl⟩ := dat_bytes h3
 obtain ⟨w, rfl⟩ := dat_u16 h4
 exact ⟨⟨r, s, b, w⟩, hr, rfl⟩
end Go.Ab
end
section
namespace Go.Proofs.YtfgooaploagiaaaGreat
open Go.ChangeShapes Go.WideShapes Go.ChangeAt Go.RowKit Go.Ab

theorem ownForwardSameSaid : ownKnob Tryz.prog.godebug = none := by kernel_rfl
theorem laidOutForwardSameSaid : laidOutB Tryz.prog = true := by kernel_rfl
theorem tdForwardSameSaid0 : tdOf Tryz.prog 8 26 = some (tdBk) := by kernel_rfl
theorem tdForwardSameSaid1 : tdOf Tryz.prog 8 46 = some (tdWd) := by kernel_rfl
set_option maxRecDepth 100000 in
theorem liftedForwardSameSaid (os : Os) (started : os.Started) (H : Type) (enc : TypeId × Value → H) :
  ReturnsInHanded {} Tryz.checked os 6 .any (Rows.forwardSameSpec.pre6 enc Tryz.prog Tryz.f6 Rows.forwardSameRow.domain false) (Rows.forwardSameSpec.post enc Tryz.prog Tryz.f6 false true false false) := by
 refine returnsInHanded_of_change (C := Tryz.checked) ownForwardSameSaid started (by kernel_rfl) Tryz.func6
  (ChangeSpec.witness6 (enc := enc) (C := Tryz.checked) false ⟨#[], #[.agg #[.slice none 0 0, .slice none 0 0, .slice none 0 0, .int .i64 0], .agg #[.int .u32 0, .int .u32 0, .int .u32 0, .int .u32 0, .int .u32 0, .int .u32 0, .int .u32 0, .int .u32 0, .int .u32 0, .int .u32 0, .int .u32 0, .int .u32 0, .int .u32 0, .int .u32 0, .int .u32 0, .int .u32 0, .int .u32 0, .int .u32 0, .int .u32 0, .int .u32 0, .int .u32 0, .int .u32 0, .int .u32 0, .int .u32 0, .int .u32 0, .int .u32 0, .int .u32 0, .int .u32 0, .int .u32 0, .int .u32 0, .int .u32 0, .int .u32 0, .int .i64 0, .slice none 0 0, .int .u16 0]], []⟩ 8 (by kernel_rfl) (by kernel_rfl) (by kernel_rfl) (by kernel_rfl)) ?_
 intro W base args ds gs before hval0 hW hcnd _
 have hval : ∀ (j : Nat) t v, Tryz.f6.params[j]? = some t → args[j]? = some v → Value.okWide Tryz.prog W .any base t v := hval0
 have hW' := hW
 obtain ⟨p, q, hA0, hV, rfl, hfz, hnd⟩ := hW
 have hA : DataW.TrodAll enc Tryz.prog W 0 (fun _ => true) true Tryz.f6.params.toList args.toList ds p := hA0
 rw [Tryz.params6] at hA hval
 obtain ⟨v0, vs0, d0, ds0, p0, q0, hargs, rfl, rfl, h0, r0⟩ := trodAll_cons hA
 obtain ⟨v1, vs1, d1, ds1, p1, q1, rfl, rfl, rfl, h1, r1⟩ := trodAll_cons r0
 obtain ⟨rfl, rfl, rfl⟩ := trodAll_nil r1
 obtain rfl : args = #[v0, v1] := by cases args; simp_all
 obtain ⟨rfl, rfl⟩ := trodVars_none hV
 have k0 := h0
 have lt0 : ∀ x ∈ p0, x.block < W.heap.size := by obtain ⟨m, hm⟩ := k0; exact DataW.trod_lt m _ _ _ hm
 obtain ⟨av0, dt0, rp0⟩ := arg_of (hval 0 26 v0 rfl rfl) h0 tdForwardSameSaid0
 obtain ⟨x0, hx0, rfl⟩ := dat_bk dt0
 have k1 := h1
 have lt1 : ∀ x ∈ p1, x.block < W.heap.size := by obtain ⟨m, hm⟩ := k1; exact DataW.trod_lt m _ _ _ hm
 obtain ⟨av1, dt1, rp1⟩ := arg_of (hval 1 46 v1 rfl rfl) h1 tdForwardSameSaid1
 obtain ⟨x1, hx1, rfl⟩ := dat_wd dt1
 clear hA0 hval0
 refine (law_calls ((lawFSame_spec x0 x1 (by have := hx0; unfold maxLen at this; exact this) hx1).mono fun r _ e => e.1) ((RepL.nil.cons rp1).cons rp0)).mono fun e W' ⟨he, bel⟩ => ?_
 subst he
 exact ⟨_, rfl, _, _, _, [], _, [], hW', trodAll_mk1 (shut_bool Tryz.underlying4 _), (trodAll_cons_mk (Below.trod laidOutForwardSameSaid (by kernel_rfl) (of_decide_eq_true (by kernel_rfl)) k0 bel lt0) (trodAll_cons_mk (Below.trod laidOutForwardSameSaid (by kernel_rfl) (of_decide_eq_true (by kernel_rfl)) k1 bel lt1) trodAll_mk0)), rfl, bel.frame _, fun h => by cases h⟩
theorem overForwardSameSaid : Rows.forwardSameRow.holds Tryz.pinned (OpenSpec.ofChange Rows.forwardSameSpec) :=
 OpenClaim.holds_of_wide 6 Tryz.f6 rfl rfl rfl rfl rfl rfl rfl ⟨rfl, rfl, rfl, rfl, rfl⟩ rfl rfl rfl rfl rfl (by kernel_rfl) Tryz.func6 (by kernel_rfl)
  (of_decide_eq_true (by kernel_rfl)) (by unfold Func.isWrapper; first | (rw [if_pos (by decide +kernel)]; kernel_rfl) | (rw [if_neg (by decide +kernel)]; exact ⟨rfl, rfl⟩))
  (fun os started H enc _ => liftedForwardSameSaid os started H enc)
theorem provedForwardSameSaid : Rows.ForwardSameSaid := overForwardSameSaid
end Go.Proofs.YtfgooaploagiaaaGreat
end
