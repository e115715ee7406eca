/- Contract: the document's differences: lists that grow; the registers. -/
import Derived.Test.YtecfchkmmnphdaaT40f
import Derived.Test.YtecfchkmmnphdaaT40p
set_option linter.unusedSimpArgs false
set_option linter.unusedVariables false
namespace Go.Ab
open Go.Proofs
variable {G : Glo} {h : Heap}
/-- A list of differences of one's own, beside blocks g0 that stay. -/
def Lr (g0 : Heap) (v : AV) (L : List Df) (h : Heap) : Prop := ∃ g, Sub g0 g ∧ Own 4 g v (L.flatMap Df.cells) L.length h
theorem Lr.get {g0 h : Heap} {v : AV} {L : List Df} (hL : Lr g0 v L h) {b : Nat} {x : Blk} (hb : g0 b = some x) : h b = some x := by
  obtain ⟨g, hs, ho⟩ := hL
  exact ho.get (hs b x hb)
theorem Lr.fresh {g0 h : Heap} {v : AV} {L : List Df} (hL : Lr g0 v L h) {b : Nat} (hb : h b = none) : g0 b = none := by
  obtain ⟨g, hs, ho⟩ := hL
  exact (hs.trans ho.sub).none hb
theorem Lr.box {g0 h : Heap} {v : AV} {L : List Df} (hL : Lr g0 v L h) {c : Nat} {x : Blk} (hc : h c = none) : Lr (upd g0 c x) v L (upd h c x) := by
  obtain ⟨g, hs, ho⟩ := hL
  exact ⟨upd g c x, hs.upd, ho.upd (.inl hc)⟩
theorem Lr.junk {g0 h : Heap} {v : AV} {L : List Df} (hL : Lr g0 v L h) {c : Nat} {x : Blk} (hc : h c = none) : Lr g0 v L (upd h c x) := by
  obtain ⟨g, hs, ho⟩ := hL
  exact ⟨upd g c x, hs.alloc (ho.sub.none hc), ho.upd (.inl hc)⟩
theorem Lr.app {g0 h : Heap} {v : AV} {L : List Df} (hL : Lr g0 v L h) (ds : List Df) (hlen : L.length + ds.length ≤ 1000) {cs : List AV} {m : Nat} (hcs : ds.flatMap Df.cells = cs) (hm : ds.length = m) {Q : Nat → AV → Heap → Prop} (hq : ∀ c v' h', Lr g0 v' (L ++ ds) h' → Q c v' h') :
    ∀ c, h c = none → appQ 4 40 m cs v (upd h c ⟨cs, 0⟩) (Q c) := by
  subst hcs
  subst hm
  intro c hc
  obtain ⟨g, hs, ho⟩ := hL.junk (x := ⟨ds.flatMap Df.cells, 0⟩) hc
  refine ho.app (flat_len Df.cells 4 ds (fun _ _ => rfl)) (by omega) (by omega) fun v' h' ho2 => ?_
  exact hq c v' h' ⟨g, hs, by rw [List.flatMap_append, List.length_append]; exact ho2⟩
theorem rregs_loop {g0 : Heap} {b0 b1 : Nat} {a c : St} (wa : a.wf) (wc : c.wf) (gX : g0 b0 = some ⟨a.cpu, 0⟩) (gY : g0 b1 = some ⟨c.cpu, 0⟩) {Q : Exit → Env → Heap → Prop} {R : List Df}
    (hexit : ∀ ρ h' v, lk ρ 2 = .ptr b0 0 → lk ρ 3 = .ptr b1 0 → lk ρ 5 = v → Lr g0 v R h' → Q (.exit 0) ρ h') : ∀ (d k : Nat) (L : List Df) (v : AV) (h : Heap), k + d = 32 → L ++ regsC a.regs c.regs d k = R → L.length ≤ 900 - d → Lr g0 v L h →
    Lp Try.prog G Try.f16.ntmps C16_10 Q (d + 1) [(2, .ptr b0 0), (3, .ptr b1 0), (5, v), (6, .int .i64 k)] h := by
  intro d
  induction d with
  | zero =>
    intro k L v h hk hR hlen hL
    refine Lp.succ [2, 3, 5, 6] ?_
    (try simp only [push_cast, Nat.reduceBEq, Nat.reduceEqDiff, reduceIte, reduceCtorEq, Nat.reduceAdd, Nat.reduceMul, Nat.reduceSub, Nat.reduceLeDiff, Nat.reduceLT, Int.reduceToNat, Int.reduceLT, Int.reduceLE, Int.reduceNeg, Int.reduceSub, Int.reduceAdd, Int.reduceEq, Int.reduceNe, Int.reduceMul]); (repeat (first | refine Wp.seq ?_ | refine Wp.block ?_ | (refine Wp.reg ?_; simp only [push_cast, Nat.reduceBEq, Nat.reduceEqDiff, reduceIte, reduceCtorEq, Nat.reduceAdd, Nat.reduceMul, Nat.reduceSub, Nat.reduceLeDiff, Nat.reduceLT, Int.reduceToNat, Int.reduceLT, Int.reduceLE, Int.reduceNeg, Int.reduceSub, Int.reduceAdd, Int.reduceEq, Int.reduceNe, Int.reduceMul]) | (refine Wp.skip ?_; simp only [push_cast, Nat.reduceBEq, Nat.reduceEqDiff, reduceIte, reduceCtorEq, Nat.reduceAdd, Nat.reduceMul, Nat.reduceSub, Nat.reduceLeDiff, Nat.reduceLT, Int.reduceToNat, Int.reduceLT, Int.reduceLE, Int.reduceNeg, Int.reduceSub, Int.reduceAdd, Int.reduceEq, Int.reduceNe, Int.reduceMul]) | (refine Wp.dreg (by kernel_rfl) (by decide) ?_; simp only [push_cast, Nat.reduceBEq, Nat.reduceEqDiff, reduceIte, reduceCtorEq, Nat.reduceAdd, Nat.reduceMul, Nat.reduceSub, Nat.reduceLeDiff, Nat.reduceLT, Int.reduceToNat, Int.reduceLT, Int.reduceLE, Int.reduceNeg, Int.reduceSub, Int.reduceAdd, Int.reduceEq, Int.reduceNe, Int.reduceMul]) | (refine Wp.ret ?_; simp only [push_cast, Nat.reduceBEq, Nat.reduceEqDiff, reduceIte, reduceCtorEq, Nat.reduceAdd, Nat.reduceMul, Nat.reduceSub, Nat.reduceLeDiff, Nat.reduceLT, Int.reduceToNat, Int.reduceLT, Int.reduceLE, Int.reduceNeg, Int.reduceSub, Int.reduceAdd, Int.reduceEq, Int.reduceNe, Int.reduceMul]) | (refine Wp.exit ?_; simp only [push_cast, Nat.reduceBEq, Nat.reduceEqDiff, reduceIte, reduceCtorEq, Nat.reduceAdd, Nat.reduceMul, Nat.reduceSub, Nat.reduceLeDiff, Nat.reduceLT, Int.reduceToNat, Int.reduceLT, Int.reduceLE, Int.reduceNeg, Int.reduceSub, Int.reduceAdd, Int.reduceEq, Int.reduceNe, Int.reduceMul])))
    refine Wp.cond rfl (fun ht => ?_) (fun ht => ?_)
    · exact absurd (of_decide_eq_true ht) (by omega)
    · refine Wp.exit ?_
      exact hexit _ _ v rfl rfl rfl (by rw [← hR]; simpa [regsC] using hL)
  | succ d ih =>
    intro k L v h hk hR hlen hL
    refine Lp.succ [2, 3, 5, 6] ?_
    (try simp only [push_cast, Nat.reduceBEq, Nat.reduceEqDiff, reduceIte, reduceCtorEq, Nat.reduceAdd, Nat.reduceMul, Nat.reduceSub, Nat.reduceLeDiff, Nat.reduceLT, Int.reduceToNat, Int.reduceLT, Int.reduceLE, Int.reduceNeg, Int.reduceSub, Int.reduceAdd, Int.reduceEq, Int.reduceNe, Int.reduceMul]); (repeat (first | refine Wp.seq ?_ | refine Wp.block ?_ | (refine Wp.reg ?_; simp only [push_cast, Nat.reduceBEq, Nat.reduceEqDiff, reduceIte, reduceCtorEq, Nat.reduceAdd, Nat.reduceMul, Nat.reduceSub, Nat.reduceLeDiff, Nat.reduceLT, Int.reduceToNat, Int.reduceLT, Int.reduceLE, Int.reduceNeg, Int.reduceSub, Int.reduceAdd, Int.reduceEq, Int.reduceNe, Int.reduceMul]) | (refine Wp.skip ?_; simp only [push_cast, Nat.reduceBEq, Nat.reduceEqDiff, reduceIte, reduceCtorEq, Nat.reduceAdd, Nat.reduceMul, Nat.reduceSub, Nat.reduceLeDiff, Nat.reduceLT, Int.reduceToNat, Int.reduceLT, Int.reduceLE, Int.reduceNeg, Int.reduceSub, Int.reduceAdd, Int.reduceEq, Int.reduceNe, Int.reduceMul]) | (refine Wp.dreg (by kernel_rfl) (by decide) ?_; simp only [push_cast, Nat.reduceBEq, Nat.reduceEqDiff, reduceIte, reduceCtorEq, Nat.reduceAdd, Nat.reduceMul, Nat.reduceSub, Nat.reduceLeDiff, Nat.reduceLT, Int.reduceToNat, Int.reduceLT, Int.reduceLE, Int.reduceNeg, Int.reduceSub, Int.reduceAdd, Int.reduceEq, Int.reduceNe, Int.reduceMul]) | (refine Wp.ret ?_; simp only [push_cast, Nat.reduceBEq, Nat.reduceEqDiff, reduceIte, reduceCtorEq, Nat.reduceAdd, Nat.reduceMul, Nat.reduceSub, Nat.reduceLeDiff, Nat.reduceLT, Int.reduceToNat, Int.reduceLT, Int.reduceLE, Int.reduceNeg, Int.reduceSub, Int.reduceAdd, Int.reduceEq, Int.reduceNe, Int.reduceMul]) | (refine Wp.exit ?_; simp only [push_cast, Nat.reduceBEq, Nat.reduceEqDiff, reduceIte, reduceCtorEq, Nat.reduceAdd, Nat.reduceMul, Nat.reduceSub, Nat.reduceLeDiff, Nat.reduceLT, Int.reduceToNat, Int.reduceLT, Int.reduceLE, Int.reduceNeg, Int.reduceSub, Int.reduceAdd, Int.reduceEq, Int.reduceNe, Int.reduceMul])))
    refine Wp.cond rfl (fun ht => ?_) (fun ht => ?_)
    · have hX := hL.get gX
      have hY := hL.get gY
      have hk' : k < 32 := by omega
      have hk2 : (k : Int) < 32 := by omega
      (try simp only [push_cast, Nat.reduceBEq, Nat.reduceEqDiff, reduceIte, reduceCtorEq, Nat.reduceAdd, Nat.reduceMul, Nat.reduceSub, Nat.reduceLeDiff, Nat.reduceLT, Int.reduceToNat, Int.reduceLT, Int.reduceLE, Int.reduceNeg, Int.reduceSub, Int.reduceAdd, Int.reduceEq, Int.reduceNe, Int.reduceMul, hX, hY, hk', hk2, cpu_reg wa hk', cpu_reg wc hk', wrap_u64 (ri_ok wa.regs32 k).to, wrap_u64 (ri_ok wc.regs32 k).to]); (repeat (first | refine Wp.seq ?_ | refine Wp.block ?_ | (refine Wp.reg ?_; simp only [push_cast, Nat.reduceBEq, Nat.reduceEqDiff, reduceIte, reduceCtorEq, Nat.reduceAdd, Nat.reduceMul, Nat.reduceSub, Nat.reduceLeDiff, Nat.reduceLT, Int.reduceToNat, Int.reduceLT, Int.reduceLE, Int.reduceNeg, Int.reduceSub, Int.reduceAdd, Int.reduceEq, Int.reduceNe, Int.reduceMul, hX, hY, hk', hk2, cpu_reg wa hk', cpu_reg wc hk', wrap_u64 (ri_ok wa.regs32 k).to, wrap_u64 (ri_ok wc.regs32 k).to]) | (refine Wp.skip ?_; simp only [push_cast, Nat.reduceBEq, Nat.reduceEqDiff, reduceIte, reduceCtorEq, Nat.reduceAdd, Nat.reduceMul, Nat.reduceSub, Nat.reduceLeDiff, Nat.reduceLT, Int.reduceToNat, Int.reduceLT, Int.reduceLE, Int.reduceNeg, Int.reduceSub, Int.reduceAdd, Int.reduceEq, Int.reduceNe, Int.reduceMul, hX, hY, hk', hk2, cpu_reg wa hk', cpu_reg wc hk', wrap_u64 (ri_ok wa.regs32 k).to, wrap_u64 (ri_ok wc.regs32 k).to]) | (refine Wp.dreg (by kernel_rfl) (by decide) ?_; simp only [push_cast, Nat.reduceBEq, Nat.reduceEqDiff, reduceIte, reduceCtorEq, Nat.reduceAdd, Nat.reduceMul, Nat.reduceSub, Nat.reduceLeDiff, Nat.reduceLT, Int.reduceToNat, Int.reduceLT, Int.reduceLE, Int.reduceNeg, Int.reduceSub, Int.reduceAdd, Int.reduceEq, Int.reduceNe, Int.reduceMul, hX, hY, hk', hk2, cpu_reg wa hk', cpu_reg wc hk', wrap_u64 (ri_ok wa.regs32 k).to, wrap_u64 (ri_ok wc.regs32 k).to]) | (refine Wp.ret ?_; simp only [push_cast, Nat.reduceBEq, Nat.reduceEqDiff, reduceIte, reduceCtorEq, Nat.reduceAdd, Nat.reduceMul, Nat.reduceSub, Nat.reduceLeDiff, Nat.reduceLT, Int.reduceToNat, Int.reduceLT, Int.reduceLE, Int.reduceNeg, Int.reduceSub, Int.reduceAdd, Int.reduceEq, Int.reduceNe, Int.reduceMul, hX, hY, hk', hk2, cpu_reg wa hk', cpu_reg wc hk', wrap_u64 (ri_ok wa.regs32 k).to, wrap_u64 (ri_ok wc.regs32 k).to]) | (refine Wp.exit ?_; simp only [push_cast, Nat.reduceBEq, Nat.reduceEqDiff, reduceIte, reduceCtorEq, Nat.reduceAdd, Nat.reduceMul, Nat.reduceSub, Nat.reduceLeDiff, Nat.reduceLT, Int.reduceToNat, Int.reduceLT, Int.reduceLE, Int.reduceNeg, Int.reduceSub, Int.reduceAdd, Int.reduceEq, Int.reduceNe, Int.reduceMul, hX, hY, hk', hk2, cpu_reg wa hk', cpu_reg wc hk', wrap_u64 (ri_ok wa.regs32 k).to, wrap_u64 (ri_ok wc.regs32 k).to])))
      refine hL.app [⟨⟨#[114, 101, 103, 105, 115, 116, 101, 114]⟩, k, ri a.regs k, ri c.regs k⟩] (by simp only [List.length_cons, List.length_nil]; omega) (by simp [Df.cells]) rfl ?_
      intro _ v' h' hL'
      (try simp only [push_cast, Nat.reduceBEq, Nat.reduceEqDiff, reduceIte, reduceCtorEq, Nat.reduceAdd, Nat.reduceMul, Nat.reduceSub, Nat.reduceLeDiff, Nat.reduceLT, Int.reduceToNat, Int.reduceLT, Int.reduceLE, Int.reduceNeg, Int.reduceSub, Int.reduceAdd, Int.reduceEq, Int.reduceNe, Int.reduceMul]); (repeat (first | refine Wp.seq ?_ | refine Wp.block ?_ | (refine Wp.reg ?_; simp only [push_cast, Nat.reduceBEq, Nat.reduceEqDiff, reduceIte, reduceCtorEq, Nat.reduceAdd, Nat.reduceMul, Nat.reduceSub, Nat.reduceLeDiff, Nat.reduceLT, Int.reduceToNat, Int.reduceLT, Int.reduceLE, Int.reduceNeg, Int.reduceSub, Int.reduceAdd, Int.reduceEq, Int.reduceNe, Int.reduceMul]) | (refine Wp.skip ?_; simp only [push_cast, Nat.reduceBEq, Nat.reduceEqDiff, reduceIte, reduceCtorEq, Nat.reduceAdd, Nat.reduceMul, Nat.reduceSub, Nat.reduceLeDiff, Nat.reduceLT, Int.reduceToNat, Int.reduceLT, Int.reduceLE, Int.reduceNeg, Int.reduceSub, Int.reduceAdd, Int.reduceEq, Int.reduceNe, Int.reduceMul]) | (refine Wp.dreg (by kernel_rfl) (by decide) ?_; simp only [push_cast, Nat.reduceBEq, Nat.reduceEqDiff, reduceIte, reduceCtorEq, Nat.reduceAdd, Nat.reduceMul, Nat.reduceSub, Nat.reduceLeDiff, Nat.reduceLT, Int.reduceToNat, Int.reduceLT, Int.reduceLE, Int.reduceNeg, Int.reduceSub, Int.reduceAdd, Int.reduceEq, Int.reduceNe, Int.reduceMul]) | (refine Wp.ret ?_; simp only [push_cast, Nat.reduceBEq, Nat.reduceEqDiff, reduceIte, reduceCtorEq, Nat.reduceAdd, Nat.reduceMul, Nat.reduceSub, Nat.reduceLeDiff, Nat.reduceLT, Int.reduceToNat, Int.reduceLT, Int.reduceLE, Int.reduceNeg, Int.reduceSub, Int.reduceAdd, Int.reduceEq, Int.reduceNe, Int.reduceMul]) | (refine Wp.exit ?_; simp only [push_cast, Nat.reduceBEq, Nat.reduceEqDiff, reduceIte, reduceCtorEq, Nat.reduceAdd, Nat.reduceMul, Nat.reduceSub, Nat.reduceLeDiff, Nat.reduceLT, Int.reduceToNat, Int.reduceLT, Int.reduceLE, Int.reduceNeg, Int.reduceSub, Int.reduceAdd, Int.reduceEq, Int.reduceNe, Int.reduceMul])))
      rw [wrap64_id (by omega) (by omega)]
      refine ih (k + 1) _ v' h' (by omega) ?_ ?_ hL'
      · rw [← hR]; simp [regsC]
      · rw [List.length_append]; simp only [List.length_cons, List.length_nil]; omega
    · exact absurd (of_decide_eq_false ht) (by omega)
end Go.Ab
