/- The document's memory: stored. -/
import Derived.Test.YtjaknpophnolmaaE16
import Derived.Test.YtjaknpophnolmaaOt
set_option linter.unusedSimpArgs false
set_option linter.unusedVariables false
set_option maxRecDepth 10000
namespace Go.Ab
open Go.Proofs
variable {G : Glo} {h : Heap}
/-- Blocks of one's own that lie beside what was there. -/
structure Bag (h H : Heap) (l : List (Nat × Blk)) : Prop where
  get : ∀ p ∈ l, H p.1 = some p.2
  new : ∀ p ∈ l, h p.1 = none
  nd : (l.map (·.1)).Nodup
  sub : Sub h H
theorem Bag.start (h : Heap) : Bag h h [] := ⟨fun p q => (by cases q), fun p q => (by cases q), by simp, Sub.refl h⟩
theorem Bag.alloc {h H : Heap} {l : List (Nat × Blk)} {b : Nat} (x : Blk) (hB : Bag h H l) (hb : H b = none) : Bag h (upd H b x) ((b, x) :: l) := by
  have hne : ∀ p ∈ l, p.1 ≠ b := fun p hp e => by rw [← e, hB.get p hp] at hb; cases hb
  refine ⟨fun p hp => ?_, fun p hp => ?_, ?_, hB.sub.alloc hb⟩
  · rcases List.mem_cons.1 hp with rfl | hp
    · exact upd_same _ _ _
    · rw [upd_ne (hne p hp)]; exact hB.get p hp
  · rcases List.mem_cons.1 hp with rfl | hp
    · exact hB.sub.none hb
    · exact hB.new p hp
  · simp only [List.map_cons, List.nodup_cons]
    refine ⟨fun q => ?_, hB.nd⟩
    obtain ⟨p, hp, e⟩ := List.mem_map.1 q
    exact hne p hp e
/-- A row moved, as an append does. -/
theorem Bag.app {h H : Heap} {l r : List (Nat × Blk)} {b b' : Nat} {x : Blk} (y : Blk) (hB : Bag h H l) (hp : l.Perm ((b, x) :: r)) (hb : b' = b ∨ H b' = none) : Bag h (upd (era H b) b' y) ((b', y) :: r) := by
  have hnd : (((b, x) :: r).map (·.1)).Nodup := (hp.map _).nodup_iff.1 hB.nd
  simp only [List.map_cons, List.nodup_cons] at hnd
  have hbr : ∀ p ∈ r, p.1 ≠ b := fun p hp e => hnd.1 (e ▸ List.mem_map_of_mem hp)
  have hg : ∀ p ∈ r, H p.1 = some p.2 := fun p q => hB.get p (hp.mem_iff.2 (List.mem_cons_of_mem _ q))
  have hn : ∀ p ∈ r, h p.1 = none := fun p q => hB.new p (hp.mem_iff.2 (List.mem_cons_of_mem _ q))
  have hbn : h b = none := hB.new (b, x) (hp.mem_iff.2 (by simp))
  have hb'n : h b' = none := by
    rcases hb with rfl | q
    · exact hbn
    · exact hB.sub.none q
  have hne : ∀ p ∈ r, p.1 ≠ b' := fun p q e => by
    rcases hb with rfl | hb
    · exact hbr p q e
    · rw [← e, hg p q] at hb; cases hb
  refine ⟨fun p q => ?_, fun p q => ?_, ?_, fun c z hc => ?_⟩
  · rcases List.mem_cons.1 q with rfl | q
    · exact upd_same _ _ _
    · rw [upd_ne (hne p q), era, if_neg (hbr p q)]; exact hg p q
  · rcases List.mem_cons.1 q with rfl | q
    · exact hb'n
    · exact hn p q
  · simp only [List.map_cons, List.nodup_cons]
    refine ⟨fun q => ?_, hnd.2⟩
    obtain ⟨p, hp, e⟩ := List.mem_map.1 q
    exact hne p hp e
  · have h1 : c ≠ b := fun e => by rw [e, hbn] at hc; cases hc
    have h2 : c ≠ b' := fun e => by rw [e, hb'n] at hc; cases hc
    rw [upd_ne h2, era, if_neg h1]
    exact hB.sub c z hc
theorem Bag.perm {h H : Heap} {l r : List (Nat × Blk)} (hB : Bag h H l) (hp : l.Perm r) : Bag h H r :=
  ⟨fun p q => hB.get p (hp.mem_iff.2 q), fun p q => hB.new p (hp.mem_iff.2 q), (hp.map _).nodup_iff.1 hB.nd, hB.sub⟩
/-- A block written. -/
theorem Bag.set {h H : Heap} {r : List (Nat × Blk)} {b : Nat} {x : Blk} (y : Blk) (hB : Bag h H ((b, x) :: r)) : Bag h (upd H b y) ((b, y) :: r) := by
  have hnd := hB.nd
  simp only [List.map_cons, List.nodup_cons] at hnd
  refine ⟨fun p q => ?_, fun p q => ?_, hB.nd, hB.sub.set (hB.new (b, x) (by simp))⟩
  · rcases List.mem_cons.1 q with rfl | q
    · exact upd_same _ _ _
    · have hpb : p.1 ≠ b := fun e => hnd.1 (by rw [← e]; exact List.mem_map_of_mem q)
      rw [upd_ne hpb]; exact hB.get p (List.mem_cons_of_mem _ q)
  · rcases List.mem_cons.1 q with rfl | q
    · exact hB.new (b, x) (by simp)
    · exact hB.new p (List.mem_cons_of_mem _ q)
/-- A row that is made by an append to an empty one. -/
theorem appQ_new {sz bytes m : Nat} {cs : List AV} {h H : Heap} {l r : List (Nat × Blk)} {b : Nat} {Q : AV → Heap → Prop} (hB : Bag h H l) (hp : l.Perm ((b, ⟨[], 0⟩) :: r)) (hm : m * bytes ≤ 140737488355328) (hm2 : m ≤ 9223372036854775807)
    (hq : ∀ b' pre cap sp H', Bag h H' ((b', ⟨pre ++ cs, sp⟩) :: r) → Q (.sl b' pre.length m cap) H') : appQ sz bytes m cs (.sl b 0 0 0) H Q := by
  have hb : H b = some ⟨[], 0⟩ := hB.get (b, ⟨[], 0⟩) (hp.mem_iff.2 (by simp))
  simp only [appQ, hb]
  refine ⟨by simp, by simp, by simpa using hm, by simpa using hm2, fun b' pre cap sp hb' _ => ?_⟩
  have := hq b' pre cap sp _ (hB.app ⟨pre ++ cs, sp⟩ hp hb')
  simpa using this
theorem Bag.at {h H : Heap} {l : List (Nat × Blk)} {b : Nat} {x : Blk} (hB : Bag h H l) (hm : (b, x) ∈ l) : H b = some x := hB.get (b, x) hm
theorem ex_upd {h H : Heap} {l : List (Nat × Blk)} {b : Nat} (hb : H b = none) (x : Blk) (hB : Bag h H l) : ∃ H', upd H b x = H' ∧ Bag h H' ((b, x) :: l) := ⟨_, rfl, hB.alloc x hb⟩
theorem Le.aggp {h : Heap} {b n cap i : Nat} {pre cells : List AV} {L : List AV} {sp : Nat} (hi : L[i]? = some (.sl b pre.length n cap)) (hb : h b = some ⟨pre ++ cells, sp⟩) (h0 : n = 0 → cells = []) : Le (.agg L) h (.agg (L.set i (.ro cells n))) (del h b) := by
  have hd : del h b b = none := by simp [del_at]
  rw [upd_del hb]
  have e2 : del (upd (del h b) b ⟨pre ++ cells, sp⟩) b = del h b := by rw [← upd_del hb]
  rw [e2]
  intro w v hw hr
  obtain ⟨cs, rfl, hl, h1, hr1⟩ := rep_agg hr
  have hsub : Sub (del h b) (upd (del h b) b ⟨pre ++ cells, sp⟩) := (Sub.refl _).alloc hd
  obtain ⟨l1, _⟩ := hrep_less hw hsub
  have hk : Keeps w (upd (del h b) b ⟨pre ++ cells, sp⟩).dom w (del h b).dom := ⟨Nat.le_refl _, fun c _ hn => ⟨fun hd => hn fun e => hd (hsub.none e), rfl⟩⟩
  refine ⟨l1, .agg _ _ (by simpa using hl) h1 fun j u c e1 e2 => ?_, fun c hc => hsub.none hc⟩
  rw [List.getElem?_set] at e1
  split at e1
  · rename_i hij
    subst hij
    split at e1
    · cases e1
      exact (Le.freeze hd h0 w c hw (hr1 i _ c hi e2)).2.1
    · cases e1
  · exact (hr1 j u c e1 e2).keep hk
theorem Le.tupb {r r' : AV} {h h' : Heap} {x : Bool} (hl : Le r h r' h') : Le (.tup [r, .bool x]) h (.tup [r', .bool x]) h' := by
  intro w v hw hr
  obtain ⟨cs, rfl, hl1, hr1⟩ := rep_tup hr
  obtain ⟨a, b, rfl⟩ : ∃ a b, cs = #[a, b] := by
    match cs, hl1 with
    | ⟨[a, b]⟩, _ => exact ⟨a, b, rfl⟩
  obtain ⟨x1, x2, x3⟩ := hl w a hw (hr1 0 r a rfl rfl)
  refine ⟨x1, .tup _ _ rfl fun i u c h1 h2 => ?_, x3⟩
  match i with
  | 0 => simp at h1 h2; subst h1; subst h2; exact x2
  | 1 =>
    simp at h1 h2; subst h1; subst h2
    have := hr1 1 (.bool x) b rfl rfl
    rw [rep_bool this]; exact .bool _
  | i + 2 => simp at h1
section
variable {M : IRam}
/-- A memory in rows of one's own. -/
def OwnR (h : Heap) (M : IRam) (r : AV) (F : Heap) : Prop := ∃ bw pw cw sw bg pg cg sg, r = .agg [byt M.b, .sl bw (List.length pw) M.w.length cw, .sl bg (List.length pg) M.g.length cg] ∧ F bw = some ⟨pw ++ bos M.w, sw⟩ ∧ F bg = some ⟨pg ++ qws M.g, sg⟩ ∧ bw ≠ bg ∧
  (h bw = none ∧ h bg = none) ∧ Sub h F
theorem OwnR.le {r : AV} {F : Heap} (ho : OwnR h M r F) : Le r F (ramV M) h := by
  obtain ⟨bw, pw, cw, sw, bg, pg, cg, sg, rfl, h1, h2, hne, ⟨h4, h5⟩, h6⟩ := ho
  have e1 := Le.aggp (i := 1) (L := [byt M.b, .sl bw (List.length pw) M.w.length cw, .sl bg (List.length pg) M.g.length cg]) rfl h1 (fun e => by simp [bos, List.length_eq_zero_iff.1 e])
  have e2 := Le.aggp (h := del F bw) (i := 2) (L := [byt M.b, .ro (bos M.w) M.w.length, .sl bg (List.length pg) M.g.length cg]) rfl (sp := sg) (by rw [del_ne (Ne.symm hne)]; exact h2) (fun e => by simp [qws, List.length_eq_zero_iff.1 e])
  refine le_trans e1 (le_trans e2 (Le.less fun c x hc => ?_))
  rw [del_ne (fun e => by rw [e, h5] at hc; cases hc), del_ne (fun e => by rw [e, h4] at hc; cases hc)]
  exact h6 c x hc
theorem row_b (pre : List AV) (l : List Bool) (i : Nat) (hi : i < l.length) : (pre ++ bos l)[pre.length + i]? = some (.bool (l.getD i false)) := by
  rw [List.getElem?_append_right (by omega), Nat.add_sub_cancel_left, bos_get, if_pos hi]
theorem row_q (pre : List AV) (l : List (BitVec 64)) (i : Nat) (hi : i < l.length) : (pre ++ qws l)[pre.length + i]? = some (.int .u64 ((l.getD i 0#64).toNat : Int)) := by
  rw [List.getElem?_append_right (by omega), Nat.add_sub_cancel_left, qws_get, if_pos hi]
theorem rset_b (pre : List AV) (l : List Bool) (i : Nat) (x : Bool) : (pre ++ bos l).set (pre.length + i) (.bool x) = pre ++ bos (l.set i x) := by
  rw [List.set_append_right _ _ (by omega), Nat.add_sub_cancel_left, bos_set]
theorem rset_q (pre : List AV) (l : List (BitVec 64)) (i : Nat) (x : BitVec 64) : (pre ++ qws l).set (pre.length + i) (.int .u64 (x.toNat : Int)) = pre ++ qws (l.set i x) := by
  rw [List.set_append_right _ _ (by omega), Nat.add_sub_cancel_left, qws_set]
/-- What holds between the operations of Store's first row, whichever have been done. -/
structure SI (h : Heap) (M : IRam) (addr w : BitVec 32) (n : Nat) (B : List (BitVec 8)) (c8 b19 bw cw sw b23 bg cg sg c10 : Nat) (pw pg : List AV) (pre : List Nat) (ρ : Env) (H : Heap) : Prop where
  k1 : lk ρ 1 = .int .u32 addr.toNat
  k8 : lk ρ 8 = .ptr c8 0
  k12 : lk ρ 12 = .cp M.cells 0
  k13 : lk ρ 13 = byt M.b
  k14 : lk ρ 14 = .int .u32 addr.toNat
  k15 : lk ρ 15 = .int .u32 w.toNat
  k16 : lk ρ 16 = .int .i64 n
  k4 : lk ρ 4 = .cp M.cells 0
  k2 : lk ρ 2 = .int .i64 n
  k3 : lk ρ 3 = .int .u32 w.toNat
  k20 : lk ρ 20 = .cp M.cells 1
  k21 : lk ρ 21 = .ro (bos M.w) M.w.length
  k24 : lk ρ 24 = .cp M.cells 2
  k25 : lk ρ 25 = .ro (qws M.g) M.g.length
  f5 : 5 ∈ pre → lk ρ 17 = byt (leB w n)
  f6 : 6 ∈ pre → lk ρ 18 = byt B
  f7 : 7 ∈ pre → lk ρ 19 = .sl b19 0 0 0
  f10 : 10 ∈ pre → lk ρ 22 = .sl bw (List.length pw) M.w.length cw
  f11 : 11 ∈ pre → lk ρ 23 = .sl b23 0 0 0
  f14 : 14 ∈ pre → lk ρ 26 = .sl bg (List.length pg) M.g.length cg
  f15 : 15 ∈ pre → lk ρ 27 = .agg [byt B, .sl bw (List.length pw) M.w.length cw, .sl bg (List.length pg) M.g.length cg]
  f16 : 16 ∈ pre → lk ρ 10 = .ptr c10 0
  d10 : 10 ∈ pre → 7 ∈ pre
  d14 : 14 ∈ pre → 11 ∈ pre
  d15 : 15 ∈ pre → 6 ∈ pre ∧ 10 ∈ pre ∧ 14 ∈ pre
  d17 : 17 ∈ pre → 15 ∈ pre ∧ 16 ∈ pre
  bag : Bag h H ((if 10 ∈ pre then [(bw, ⟨pw ++ bos M.w, sw⟩)] else if 7 ∈ pre then [(b19, ⟨[], 0⟩)] else []) ++ ((if 14 ∈ pre then [(bg, ⟨pg ++ qws M.g, sg⟩)] else if 11 ∈ pre then [(b23, ⟨[], 0⟩)] else []) ++
    ((if 17 ∈ pre then [(c10, ⟨[byt B, .sl bw (List.length pw) M.w.length cw, .sl bg (List.length pg) M.g.length cg], 0⟩)] else if 16 ∈ pre then [(c10, ⟨[.nils, .nils, .nils], 0⟩)] else []) ++ [(c8, ⟨[.nils, .nils, .nils], 0⟩)])))
theorem rStore_spec (hM : M.wf) (addr : BitVec 32) (n : Nat) (w : BitVec 32) (hz : askedN M.b.length addr n = 0) : Spec Try.prog G 45 [ramV M, .int .u32 addr.toNat, .int .i64 n, .int .u32 w.toNat] h
    (Is (.tup [ramV (M.store addr n w).1, .bool (M.store addr n w).2]) h) := by
  have hlt := addr.isLt
  have hH : hasN M.b.length addr n = true := by unfold askedN at hz; split at hz; omega; split at hz; omega; split at hz; assumption; omega
  have hn : n = 1 ∨ n = 2 ∨ n = 4 := by unfold askedN at hz; split at hz <;> omega
  have hH' := hH
  simp only [hasN, Bool.and_eq_true, decide_eq_true_eq] at hH'
  have hll : (leB w n).length = n := leB_len w n
  have hwf := hM
  unfold IRam.wf at hwf
  have rm0 : M.cells[0]? = some (byt M.b) := rfl
  have rm1 : M.cells[1]? = some (.ro (bos M.w) M.w.length) := rfl
  have rm2 : M.cells[2]? = some (.ro (qws M.g) M.g.length) := rfl
  have rml : M.cells.length = 3 := rfl
  obtain ⟨k, hk⟩ : ∃ k, addr.toNat - 2147483648 = k := ⟨_, rfl⟩
  have hk' : (addr.toNat : Int) - 2147483648 = k := by omega
  obtain ⟨p, hp⟩ : ∃ p, k / 64 = p := ⟨_, rfl⟩
  have hp' : (k : Int).tdiv 64 = (p : Int) := by rw [← hp]; simp
  have hS : M.store addr n w = (if M.w.getD p false then ({ M.put k (leB w n) with w := M.w.set p false, g := M.g.set p (M.g.getD p 0#64 + 1#64) }, true) else (M.put k (leB w n), false)) := by simp only [IRam.store, hk, hp]; rfl
  have hpl : p < M.w.length := by omega
  have hpl2 : p < M.g.length := by omega
  refine Spec.weak (Q := fun r F => ∃ r1, r = .tup [r1, .bool (M.store addr n w).2] ∧ OwnR h (M.store addr n w).1 r1 F) ?_ ?_
  · have tail : ∀ (c8 c10 bw cw sw bg cg sg : Nat) (pw pg : List AV) (H : Heap) (l : List (Nat × Blk)), Bag h H l → (c10, ⟨[byt (M.b.take k ++ leB w n ++ M.b.drop (k + n)), .sl bw (List.length pw) M.w.length cw, .sl bg (List.length pg) M.g.length cg], 0⟩) ∈ l → (c8, ⟨[.nils, .nils, .nils], 0⟩) ∈ l → (bw, ⟨pw ++ bos M.w, sw⟩) ∈ l → (bg, ⟨pg ++ qws M.g, sg⟩) ∈ l →
        (c8 ≠ c10 ∧ c8 ≠ bw ∧ c8 ≠ bg ∧ c10 ≠ bw ∧ c10 ≠ bg ∧ bw ≠ bg) →
        wpc Try.prog G Try.f45.ntmps C45_15 (retQ C45r (fun r F => ∃ r1, r = .tup [r1, .bool (M.store addr n w).2] ∧ OwnR h (M.store addr n w).1 r1 F)) [(1, .int .u32 addr.toNat), (8, .ptr c8 0), (10, .ptr c10 0)]
          H := by
      intro c8 c10 bw cw sw bg cg sg pw pg H l hB m10 m8 mw mg ⟨n1, n2, n3, n4, n5, n6⟩
      obtain ⟨H4, hH4⟩ : ∃ H4, H = H4 := ⟨_, rfl⟩
      have f10 : h c10 = none := hB.new _ m10
      have f8 : h c8 = none := hB.new _ m8
      have fw : h bw = none := hB.new _ mw
      have fg : h bg = none := hB.new _ mg
      have s4 : Sub h H4 := hH4 ▸ hB.sub
      have g10 := hB.at m10
      have g8 := hB.at m8
      have gw := hB.at mw
      have gg := hB.at mg
      rw [hH4] at g10 g8 gw gg
      have b1 := row_b pw M.w p hpl
      have b2 := rset_b pw M.w p false
      have q1 := row_q pg M.g p hpl2
      have q2 := rset_q pg M.g p (M.g.getD p 0#64 + 1#64)
      rw [hH4]
      clear hH4
      have hP : (M.put k (leB w n)).b = M.b.take k ++ leB w n ++ M.b.drop (k + n) := by simp [IRam.put, hll]
      have pa3 : ∀ a b c : AV, partOf [a, b, c] 0 (some 3) = some (.agg [a, b, c]) := fun _ _ _ => rfl
      have u1 : ∀ (H : Heap) X, upd H bw X c10 = H c10 := fun H X => upd_ne n4
      have u2 : ∀ (H : Heap) X, upd H bw X c8 = H c8 := fun H X => upd_ne n2
      have u3 : ∀ (H : Heap) X, upd H bw X bg = H bg := fun H X => upd_ne (Ne.symm n6)
      have u4 : ∀ (H : Heap) X, upd H bg X c10 = H c10 := fun H X => upd_ne n5
      have u5 : ∀ (H : Heap) X, upd H bg X c8 = H c8 := fun H X => upd_ne n3
      have u6 : ∀ (H : Heap) X, upd H bg X bw = H bw := fun H X => upd_ne n6
      have u7 : ∀ (H : Heap) X, upd H c8 X bw = H bw := fun H X => upd_ne (Ne.symm n2)
      have u8 : ∀ (H : Heap) X, upd H c8 X bg = H bg := fun H X => upd_ne (Ne.symm n3)
      have lb1 : pw.length + p + 1 ≤ (pw ++ bos M.w).length := by simp [bos]; omega
      have lb2 : pg.length + p + 1 ≤ (pg ++ qws M.g).length := by simp [qws]; omega
      cases hit : M.w.getD p false with
      | false =>
        rw [hit, if_neg (by simp)] at hS
        rw [hS]
        simp (disch := omega) only [push_cast, simprocAttr, wrap_i64, toNat_ofInt64, Nat.min_eq_left, Int.toNat_of_nonneg, hk', hp', g10, g8, gw, gg, b1, b2, q1, q2, hit, pa3, u1, u2, u3, u4, u5, u6, u7, u8]
        refine ⟨hpl, _, rfl, bw, pw, cw, sw, bg, pg, cg, sg, by rw [hP]; rfl, by rw [upd_ne (Ne.symm n2)]; exact gw, by rw [upd_ne (Ne.symm n3)]; exact gg, n6, ⟨fw, fg⟩, s4.set f8⟩
      | true =>
        rw [hit, if_pos rfl] at hS
        rw [hS]
        simp (disch := omega) only [push_cast, simprocAttr, wrap_i64, toNat_ofInt64, Nat.min_eq_left, Int.toNat_of_nonneg, hk', hp', g10, g8, gw, gg, b1, b2, q1, q2, hit, pa3, u1, u2, u3, u4, u5, u6, u7, u8]
        refine ⟨hpl, hpl, lb1, hpl2, hpl2, lb2, _, rfl, bw, pw, cw, sw, bg, pg, cg, sg, by rw [hP]; simp, ?_, ?_, n6, ⟨fw, fg⟩, ((s4.set fw).set fg).set f8⟩
        · rw [upd_ne (Ne.symm n2), upd_ne n6, upd_same]
        · rw [upd_ne (Ne.symm n3), upd_same]
    obtain ⟨T, hX, hW⟩ : ∃ T, C45_1 = ACode.dregt (opsOf C45_1) (edgOf C45_1) (.r 0 (.r 1 (.r 2 (.r 3 (.r 4 (.r 8 (.r 9 (.r 12 (.r 13 T))))))))) ∧
        wlk [5, 6, 7, 10, 11, 14, 15, 16, 17] [0, 1, 2, 3, 4, 8, 9, 12, 13] [15] (fun i => if i = 6 then [5] else if i = 10 then [7] else if i = 14 then [11] else if i = 15 then [6, 10, 14] else if i = 17 then [15, 16] else []) T [] = true := ⟨_, rfl, by decide⟩
    refine Spec.walk C45ok rfl ?_
    show wpc _ _ _ (.seq [1, 2, 3, 4, 8] C45_0 (.seq [1, 8, 10] C45_1 C45_15)) _ _ _
    generalize hY : C45_1 = Y
    simp only [push_cast, simprocAttr, rm0, rm1, rm2, rml]
    intro c8 hc8
    have B0 := (Bag.start h).alloc ⟨[.nils, .nils, .nils], 0⟩ hc8
    obtain ⟨H0, hH0⟩ : ∃ H0, upd h c8 ⟨[.nils, .nils, .nils], 0⟩ = H0 := ⟨_, rfl⟩
    rw [hH0] at B0 ⊢
    clear hH0
    have rP : ∀ H : Heap, Spec Try.prog G 38 [byt M.b, .int .u32 addr.toNat, byt (leB w n)] H (Is (byt (M.b.take k ++ leB w n ++ M.b.drop (k + n))) H) := fun H => by
      have := rPut_spec (G := G) (h := H) M.b (leB w n) addr (by omega) (by omega) (by omega)
      rw [hk, hll] at this
      exact this
    have lw : (bos M.w).length = M.w.length := bos_len _
    have lg : (qws M.g).length = M.g.length := qws_len _
    have tk1 : (bos M.w).take M.w.length = bos M.w := List.take_of_length_le (by omega)
    have tk2 : (qws M.g).take M.g.length = qws M.g := List.take_of_length_le (by omega)
    rw [← hY, hX, wpc_dregt]
    clear hY hX
    simp only [push_cast, simprocAttr, rm0, rm1, rm2, rml, opsOf]
    refine dwpT_inv (I := fun pre ρ H => ∃ b19 bw cw sw b23 bg cg sg c10 pw pg, SI h M addr w n (M.b.take k ++ leB w n ++ M.b.drop (k + n)) c8 b19 bw cw sw b23 bg cg sg c10 pw pg pre ρ H) ?_ ?_ T [] _ _ hW ⟨0, 0, 0, 0, 0, 0, 0, 0, 0, [], [], ?_⟩
    · intro i hi fl pre ρ H K hfl hni hD hI hK
      obtain ⟨b19, bw, cw, sw, b23, bg, cg, sg, c10, pw, pg, hI⟩ := hI
      have hst : ∀ H', stb G (opsOf C45_1) ρ H' fl := fun H' => stb_of (S := fl) (fun j hj => by
        have z := hfl j hj
        simp only [List.mem_cons, List.not_mem_nil, or_false] at z
        rcases z with (rfl | rfl | rfl | rfl | rfl | rfl | rfl | rfl | rfl) | ⟨rfl, hm⟩
        all_goals simp only [opsOf, List.getElem?_cons_succ, List.getElem?_cons_zero, bindO, pend, gd]
        all_goals try simp only [push_cast, simprocAttr, hI.k1, hI.k8, hI.k12, hI.k13, hI.k14, hI.k15, hI.k16, hI.k4, hI.k2, hI.k3, hI.k20, hI.k21, hI.k24, hI.k25, rm0, rm1, rm2, rml]
        have z := hI.d15 hm
        simp only [push_cast, simprocAttr, hI.f6 z.1, hI.f10 z.2.1, hI.f14 z.2.2, hI.f15 hm]) fl (fun j hj => hj)
      simp only [opsOf] at hst
      simp only [List.mem_cons, List.not_mem_nil, or_false] at hi
      rcases hi with rfl | rfl | rfl | rfl | rfl | rfl | rfl | rfl | rfl
      · -- 5
        simp (disch := omega) only [push_cast, simprocAttr, wrap_i64, toNat_ofInt64, Nat.min_eq_left, Int.toNat_of_nonneg, hI.k1, hI.k8, hI.k12, hI.k13, hI.k14, hI.k15, hI.k16, hI.k4, hI.k2, hI.k3, hI.k20, hI.k21, hI.k24, hI.k25, rm0, rm1, rm2, rml, lw, lg, tk1, tk2]
        refine (rBytes_spec w n (by omega)).to ?_
        simp (disch := omega) only [push_cast, simprocAttr, wrap_i64, toNat_ofInt64, Nat.min_eq_left, Int.toNat_of_nonneg, hI.k1, hI.k8, hI.k12, hI.k13, hI.k14, hI.k15, hI.k16, hI.k4, hI.k2, hI.k3, hI.k20, hI.k21, hI.k24, hI.k25, rm0, rm1, rm2, rml, lw, lg, tk1, tk2]
        exact ⟨hst _, hK _ _ ⟨b19, bw, cw, sw, b23, bg, cg, sg, c10, pw, pg, {
              k1 := (by simpa [lk, put] using hI.k1),
              k8 := (by simpa [lk, put] using hI.k8),
              k12 := (by simpa [lk, put] using hI.k12),
              k13 := (by simpa [lk, put] using hI.k13),
              k14 := (by simpa [lk, put] using hI.k14),
              k15 := (by simpa [lk, put] using hI.k15),
              k16 := (by simpa [lk, put] using hI.k16),
              k4 := (by simpa [lk, put] using hI.k4),
              k2 := (by simpa [lk, put] using hI.k2),
              k3 := (by simpa [lk, put] using hI.k3),
              k20 := (by simpa [lk, put] using hI.k20),
              k21 := (by simpa [lk, put] using hI.k21),
              k24 := (by simpa [lk, put] using hI.k24),
              k25 := (by simpa [lk, put] using hI.k25),
              f5 := fun _ => (by simp [lk, put]),
              f6 := fun q => (by have z := hI.f6 (by simpa using q); simpa [lk, put] using z),
              f7 := fun q => (by have z := hI.f7 (by simpa using q); simpa [lk, put] using z),
              f10 := fun q => (by have z := hI.f10 (by simpa using q); simpa [lk, put] using z),
              f11 := fun q => (by have z := hI.f11 (by simpa using q); simpa [lk, put] using z),
              f14 := fun q => (by have z := hI.f14 (by simpa using q); simpa [lk, put] using z),
              f15 := fun q => (by have z := hI.f15 (by simpa using q); simpa [lk, put] using z),
              f16 := fun q => (by have z := hI.f16 (by simpa using q); simpa [lk, put] using z),
              d10 := fun q => (by have z := hI.d10; simp only [List.mem_cons] at q ⊢; grind),
              d14 := fun q => (by have z := hI.d14; simp only [List.mem_cons] at q ⊢; grind),
              d15 := fun q => (by have z := hI.d15; simp only [List.mem_cons] at q ⊢; grind),
              d17 := fun q => (by have z := hI.d17; simp only [List.mem_cons] at q ⊢; grind),
              bag := (by have z := hI.bag; simpa using z) }⟩⟩
      · -- 6
        have z5 := hI.f5 (hD 5 (by simp))
        simp (disch := omega) only [push_cast, simprocAttr, wrap_i64, toNat_ofInt64, Nat.min_eq_left, Int.toNat_of_nonneg, hI.k1, hI.k8, hI.k12, hI.k13, hI.k14, hI.k15, hI.k16, hI.k4, hI.k2, hI.k3, hI.k20, hI.k21, hI.k24, hI.k25, rm0, rm1, rm2, rml, lw, lg, tk1, tk2, z5]
        refine (rP _).to ?_
        simp (disch := omega) only [push_cast, simprocAttr, wrap_i64, toNat_ofInt64, Nat.min_eq_left, Int.toNat_of_nonneg, hI.k1, hI.k8, hI.k12, hI.k13, hI.k14, hI.k15, hI.k16, hI.k4, hI.k2, hI.k3, hI.k20, hI.k21, hI.k24, hI.k25, rm0, rm1, rm2, rml, lw, lg, tk1, tk2, z5]
        exact ⟨hst _, hK _ _ ⟨b19, bw, cw, sw, b23, bg, cg, sg, c10, pw, pg, {
              k1 := (by simpa [lk, put] using hI.k1),
              k8 := (by simpa [lk, put] using hI.k8),
              k12 := (by simpa [lk, put] using hI.k12),
              k13 := (by simpa [lk, put] using hI.k13),
              k14 := (by simpa [lk, put] using hI.k14),
              k15 := (by simpa [lk, put] using hI.k15),
              k16 := (by simpa [lk, put] using hI.k16),
              k4 := (by simpa [lk, put] using hI.k4),
              k2 := (by simpa [lk, put] using hI.k2),
              k3 := (by simpa [lk, put] using hI.k3),
              k20 := (by simpa [lk, put] using hI.k20),
              k21 := (by simpa [lk, put] using hI.k21),
              k24 := (by simpa [lk, put] using hI.k24),
              k25 := (by simpa [lk, put] using hI.k25),
              f5 := fun q => (by have z := hI.f5 (by simpa using q); simpa [lk, put] using z),
              f6 := fun _ => (by simp [lk, put]),
              f7 := fun q => (by have z := hI.f7 (by simpa using q); simpa [lk, put] using z),
              f10 := fun q => (by have z := hI.f10 (by simpa using q); simpa [lk, put] using z),
              f11 := fun q => (by have z := hI.f11 (by simpa using q); simpa [lk, put] using z),
              f14 := fun q => (by have z := hI.f14 (by simpa using q); simpa [lk, put] using z),
              f15 := fun q => (by have z := hI.f15 (by simpa using q); simpa [lk, put] using z),
              f16 := fun q => (by have z := hI.f16 (by simpa using q); simpa [lk, put] using z),
              d10 := fun q => (by have z := hI.d10; simp only [List.mem_cons] at q ⊢; grind),
              d14 := fun q => (by have z := hI.d14; simp only [List.mem_cons] at q ⊢; grind),
              d15 := fun q => (by have z := hI.d15; simp only [List.mem_cons] at q ⊢; grind),
              d17 := fun q => (by have z := hI.d17; simp only [List.mem_cons] at q ⊢; grind),
              bag := (by have z := hI.bag; simpa using z) }⟩⟩
      · -- 7
        simp (disch := omega) only [push_cast, simprocAttr, wrap_i64, toNat_ofInt64, Nat.min_eq_left, Int.toNat_of_nonneg, hI.k1, hI.k8, hI.k12, hI.k13, hI.k14, hI.k15, hI.k16, hI.k4, hI.k2, hI.k3, hI.k20, hI.k21, hI.k24, hI.k25, rm0, rm1, rm2, rml, lw, lg, tk1, tk2]
        intro b hb
        have n10 : 10 ∉ pre := fun q => hni (hI.d10 q)
        have z := hI.bag.alloc ⟨[], 0⟩ hb
        rw [if_neg n10, if_neg hni] at z
        exact ⟨hst _, hK _ _ ⟨b, bw, cw, sw, b23, bg, cg, sg, c10, pw, pg, {
              k1 := (by simpa [lk, put] using hI.k1),
              k8 := (by simpa [lk, put] using hI.k8),
              k12 := (by simpa [lk, put] using hI.k12),
              k13 := (by simpa [lk, put] using hI.k13),
              k14 := (by simpa [lk, put] using hI.k14),
              k15 := (by simpa [lk, put] using hI.k15),
              k16 := (by simpa [lk, put] using hI.k16),
              k4 := (by simpa [lk, put] using hI.k4),
              k2 := (by simpa [lk, put] using hI.k2),
              k3 := (by simpa [lk, put] using hI.k3),
              k20 := (by simpa [lk, put] using hI.k20),
              k21 := (by simpa [lk, put] using hI.k21),
              k24 := (by simpa [lk, put] using hI.k24),
              k25 := (by simpa [lk, put] using hI.k25),
              f5 := fun q => (by have z := hI.f5 (by simpa using q); simpa [lk, put] using z),
              f6 := fun q => (by have z := hI.f6 (by simpa using q); simpa [lk, put] using z),
              f7 := fun _ => (by simp [lk, put]),
              f10 := fun q => (by have z := hI.f10 (by simpa using q); simpa [lk, put] using z),
              f11 := fun q => (by have z := hI.f11 (by simpa using q); simpa [lk, put] using z),
              f14 := fun q => (by have z := hI.f14 (by simpa using q); simpa [lk, put] using z),
              f15 := fun q => (by have z := hI.f15 (by simpa using q); simpa [lk, put] using z),
              f16 := fun q => (by have z := hI.f16 (by simpa using q); simpa [lk, put] using z),
              d10 := fun q => (by have z := hI.d10; simp only [List.mem_cons] at q ⊢; grind),
              d14 := fun q => (by have z := hI.d14; simp only [List.mem_cons] at q ⊢; grind),
              d15 := fun q => (by have z := hI.d15; simp only [List.mem_cons] at q ⊢; grind),
              d17 := fun q => (by have z := hI.d17; simp only [List.mem_cons] at q ⊢; grind),
              bag := (by simpa [n10] using z) }⟩⟩
      · -- 10
        have z7 := hI.f7 (hD 7 (by simp))
        simp (disch := omega) only [push_cast, simprocAttr, wrap_i64, toNat_ofInt64, Nat.min_eq_left, Int.toNat_of_nonneg, hI.k1, hI.k8, hI.k12, hI.k13, hI.k14, hI.k15, hI.k16, hI.k4, hI.k2, hI.k3, hI.k20, hI.k21, hI.k24, hI.k25, rm0, rm1, rm2, rml, lw, lg, tk1, tk2, z7]
        have m7 := hD 7 (by simp)
        have n15 : 15 ∉ pre := fun q => hni (hI.d15 q).2.1
        have n17 : 17 ∉ pre := fun q => n15 (hI.d17 q).1
        have z := hI.bag
        rw [if_neg hni, if_pos m7, if_neg n17] at z
        refine appQ_new z (.refl _) (by omega) (by omega) ?_
        intro b' pre' cap' sp' H' hB'
        exact ⟨hst _, hK _ _ ⟨b19, b', cap', sp', b23, bg, cg, sg, c10, pre', pg, {
              k1 := (by simpa [lk, put] using hI.k1),
              k8 := (by simpa [lk, put] using hI.k8),
              k12 := (by simpa [lk, put] using hI.k12),
              k13 := (by simpa [lk, put] using hI.k13),
              k14 := (by simpa [lk, put] using hI.k14),
              k15 := (by simpa [lk, put] using hI.k15),
              k16 := (by simpa [lk, put] using hI.k16),
              k4 := (by simpa [lk, put] using hI.k4),
              k2 := (by simpa [lk, put] using hI.k2),
              k3 := (by simpa [lk, put] using hI.k3),
              k20 := (by simpa [lk, put] using hI.k20),
              k21 := (by simpa [lk, put] using hI.k21),
              k24 := (by simpa [lk, put] using hI.k24),
              k25 := (by simpa [lk, put] using hI.k25),
              f5 := fun q => (by have z := hI.f5 (by simpa using q); simpa [lk, put] using z),
              f6 := fun q => (by have z := hI.f6 (by simpa using q); simpa [lk, put] using z),
              f7 := fun q => (by have z := hI.f7 (by simpa using q); simpa [lk, put] using z),
              f10 := fun _ => (by simp [lk, put]),
              f11 := fun q => (by have z := hI.f11 (by simpa using q); simpa [lk, put] using z),
              f14 := fun q => (by have z := hI.f14 (by simpa using q); simpa [lk, put] using z),
              f15 := fun q => (absurd (by simpa using q) n15),
              f16 := fun q => (by have z := hI.f16 (by simpa using q); simpa [lk, put] using z),
              d10 := fun q => (by have z := hI.d10; simp only [List.mem_cons] at q ⊢; grind),
              d14 := fun q => (by have z := hI.d14; simp only [List.mem_cons] at q ⊢; grind),
              d15 := fun q => (by have z := hI.d15; simp only [List.mem_cons] at q ⊢; grind),
              d17 := fun q => (by have z := hI.d17; simp only [List.mem_cons] at q ⊢; grind),
              bag := (by simpa [n17, n15] using hB') }⟩⟩
      · -- 11
        simp (disch := omega) only [push_cast, simprocAttr, wrap_i64, toNat_ofInt64, Nat.min_eq_left, Int.toNat_of_nonneg, hI.k1, hI.k8, hI.k12, hI.k13, hI.k14, hI.k15, hI.k16, hI.k4, hI.k2, hI.k3, hI.k20, hI.k21, hI.k24, hI.k25, rm0, rm1, rm2, rml, lw, lg, tk1, tk2]
        intro b hb
        have n14 : 14 ∉ pre := fun q => hni (hI.d14 q)
        have z := hI.bag.alloc ⟨[], 0⟩ hb
        rw [if_neg n14, if_neg hni] at z
        have z := z.perm (List.perm_middle (l₂ := _)).symm
        exact ⟨hst _, hK _ _ ⟨b19, bw, cw, sw, b, bg, cg, sg, c10, pw, pg, {
              k1 := (by simpa [lk, put] using hI.k1),
              k8 := (by simpa [lk, put] using hI.k8),
              k12 := (by simpa [lk, put] using hI.k12),
              k13 := (by simpa [lk, put] using hI.k13),
              k14 := (by simpa [lk, put] using hI.k14),
              k15 := (by simpa [lk, put] using hI.k15),
              k16 := (by simpa [lk, put] using hI.k16),
              k4 := (by simpa [lk, put] using hI.k4),
              k2 := (by simpa [lk, put] using hI.k2),
              k3 := (by simpa [lk, put] using hI.k3),
              k20 := (by simpa [lk, put] using hI.k20),
              k21 := (by simpa [lk, put] using hI.k21),
              k24 := (by simpa [lk, put] using hI.k24),
              k25 := (by simpa [lk, put] using hI.k25),
              f5 := fun q => (by have z := hI.f5 (by simpa using q); simpa [lk, put] using z),
              f6 := fun q => (by have z := hI.f6 (by simpa using q); simpa [lk, put] using z),
              f7 := fun q => (by have z := hI.f7 (by simpa using q); simpa [lk, put] using z),
              f10 := fun q => (by have z := hI.f10 (by simpa using q); simpa [lk, put] using z),
              f11 := fun _ => (by simp [lk, put]),
              f14 := fun q => (by have z := hI.f14 (by simpa using q); simpa [lk, put] using z),
              f15 := fun q => (by have z := hI.f15 (by simpa using q); simpa [lk, put] using z),
              f16 := fun q => (by have z := hI.f16 (by simpa using q); simpa [lk, put] using z),
              d10 := fun q => (by have z := hI.d10; simp only [List.mem_cons] at q ⊢; grind),
              d14 := fun q => (by have z := hI.d14; simp only [List.mem_cons] at q ⊢; grind),
              d15 := fun q => (by have z := hI.d15; simp only [List.mem_cons] at q ⊢; grind),
              d17 := fun q => (by have z := hI.d17; simp only [List.mem_cons] at q ⊢; grind),
              bag := (by simpa [n14] using z) }⟩⟩
      · -- 14
        have z11 := hI.f11 (hD 11 (by simp))
        simp (disch := omega) only [push_cast, simprocAttr, wrap_i64, toNat_ofInt64, Nat.min_eq_left, Int.toNat_of_nonneg, hI.k1, hI.k8, hI.k12, hI.k13, hI.k14, hI.k15, hI.k16, hI.k4, hI.k2, hI.k3, hI.k20, hI.k21, hI.k24, hI.k25, rm0, rm1, rm2, rml, lw, lg, tk1, tk2, z11]
        have m11 := hD 11 (by simp)
        have n15 : 15 ∉ pre := fun q => hni (hI.d15 q).2.2
        have n17 : 17 ∉ pre := fun q => n15 (hI.d17 q).1
        have z := hI.bag
        rw [if_neg hni, if_pos m11, if_neg n17] at z
        refine appQ_new z List.perm_middle (by omega) (by omega) ?_
        intro b' pre' cap' sp' H' hB'
        have hB' := hB'.perm (List.perm_middle (l₂ := _)).symm
        exact ⟨hst _, hK _ _ ⟨b19, bw, cw, sw, b23, b', cap', sp', c10, pw, pre', {
              k1 := (by simpa [lk, put] using hI.k1),
              k8 := (by simpa [lk, put] using hI.k8),
              k12 := (by simpa [lk, put] using hI.k12),
              k13 := (by simpa [lk, put] using hI.k13),
              k14 := (by simpa [lk, put] using hI.k14),
              k15 := (by simpa [lk, put] using hI.k15),
              k16 := (by simpa [lk, put] using hI.k16),
              k4 := (by simpa [lk, put] using hI.k4),
              k2 := (by simpa [lk, put] using hI.k2),
              k3 := (by simpa [lk, put] using hI.k3),
              k20 := (by simpa [lk, put] using hI.k20),
              k21 := (by simpa [lk, put] using hI.k21),
              k24 := (by simpa [lk, put] using hI.k24),
              k25 := (by simpa [lk, put] using hI.k25),
              f5 := fun q => (by have z := hI.f5 (by simpa using q); simpa [lk, put] using z),
              f6 := fun q => (by have z := hI.f6 (by simpa using q); simpa [lk, put] using z),
              f7 := fun q => (by have z := hI.f7 (by simpa using q); simpa [lk, put] using z),
              f10 := fun q => (by have z := hI.f10 (by simpa using q); simpa [lk, put] using z),
              f11 := fun q => (by have z := hI.f11 (by simpa using q); simpa [lk, put] using z),
              f14 := fun _ => (by simp [lk, put]),
              f15 := fun q => (absurd (by simpa using q) n15),
              f16 := fun q => (by have z := hI.f16 (by simpa using q); simpa [lk, put] using z),
              d10 := fun q => (by have z := hI.d10; simp only [List.mem_cons] at q ⊢; grind),
              d14 := fun q => (by have z := hI.d14; simp only [List.mem_cons] at q ⊢; grind),
              d15 := fun q => (by have z := hI.d15; simp only [List.mem_cons] at q ⊢; grind),
              d17 := fun q => (by have z := hI.d17; simp only [List.mem_cons] at q ⊢; grind),
              bag := (by simpa [n17, n15] using hB') }⟩⟩
      · -- 15
        have z6 := hI.f6 (hD 6 (by simp))
        have z10 := hI.f10 (hD 10 (by simp))
        have z14 := hI.f14 (hD 14 (by simp))
        simp (disch := omega) only [push_cast, simprocAttr, wrap_i64, toNat_ofInt64, Nat.min_eq_left, Int.toNat_of_nonneg, hI.k1, hI.k8, hI.k12, hI.k13, hI.k14, hI.k15, hI.k16, hI.k4, hI.k2, hI.k3, hI.k20, hI.k21, hI.k24, hI.k25, rm0, rm1, rm2, rml, lw, lg, tk1, tk2, z6, z10, z14]
        exact (hK _ _ ⟨b19, bw, cw, sw, b23, bg, cg, sg, c10, pw, pg, {
              k1 := (by simpa [lk, put] using hI.k1),
              k8 := (by simpa [lk, put] using hI.k8),
              k12 := (by simpa [lk, put] using hI.k12),
              k13 := (by simpa [lk, put] using hI.k13),
              k14 := (by simpa [lk, put] using hI.k14),
              k15 := (by simpa [lk, put] using hI.k15),
              k16 := (by simpa [lk, put] using hI.k16),
              k4 := (by simpa [lk, put] using hI.k4),
              k2 := (by simpa [lk, put] using hI.k2),
              k3 := (by simpa [lk, put] using hI.k3),
              k20 := (by simpa [lk, put] using hI.k20),
              k21 := (by simpa [lk, put] using hI.k21),
              k24 := (by simpa [lk, put] using hI.k24),
              k25 := (by simpa [lk, put] using hI.k25),
              f5 := fun q => (by have z := hI.f5 (by simpa using q); simpa [lk, put] using z),
              f6 := fun q => (by have z := hI.f6 (by simpa using q); simpa [lk, put] using z),
              f7 := fun q => (by have z := hI.f7 (by simpa using q); simpa [lk, put] using z),
              f10 := fun q => (by have z := hI.f10 (by simpa using q); simpa [lk, put] using z),
              f11 := fun q => (by have z := hI.f11 (by simpa using q); simpa [lk, put] using z),
              f14 := fun q => (by have z := hI.f14 (by simpa using q); simpa [lk, put] using z),
              f15 := fun _ => (by simp [lk, put]),
              f16 := fun q => (by have z := hI.f16 (by simpa using q); simpa [lk, put] using z),
              d10 := fun q => (by have z := hI.d10; simp only [List.mem_cons] at q ⊢; grind),
              d14 := fun q => (by have z := hI.d14; simp only [List.mem_cons] at q ⊢; grind),
              d15 := fun q => (by have z := hI.d15; simp only [List.mem_cons] at q ⊢; grind),
              d17 := fun q => (by have z := hI.d17; simp only [List.mem_cons] at q ⊢; grind),
              bag := (by have z := hI.bag; simpa using z) }⟩)
      · -- 16
        simp (disch := omega) only [push_cast, simprocAttr, wrap_i64, toNat_ofInt64, Nat.min_eq_left, Int.toNat_of_nonneg, hI.k1, hI.k8, hI.k12, hI.k13, hI.k14, hI.k15, hI.k16, hI.k4, hI.k2, hI.k3, hI.k20, hI.k21, hI.k24, hI.k25, rm0, rm1, rm2, rml, lw, lg, tk1, tk2]
        intro b hb
        have n17 : 17 ∉ pre := fun q => hni (hI.d17 q).2
        have z := hI.bag.alloc ⟨[.nils, .nils, .nils], 0⟩ hb
        rw [if_neg n17, if_neg hni] at z
        rw [← List.append_assoc] at z
        have z := z.perm (List.perm_middle (l₂ := _)).symm
        rw [List.append_assoc] at z
        exact ⟨hst _, hK _ _ ⟨b19, bw, cw, sw, b23, bg, cg, sg, b, pw, pg, {
              k1 := (by simpa [lk, put] using hI.k1),
              k8 := (by simpa [lk, put] using hI.k8),
              k12 := (by simpa [lk, put] using hI.k12),
              k13 := (by simpa [lk, put] using hI.k13),
              k14 := (by simpa [lk, put] using hI.k14),
              k15 := (by simpa [lk, put] using hI.k15),
              k16 := (by simpa [lk, put] using hI.k16),
              k4 := (by simpa [lk, put] using hI.k4),
              k2 := (by simpa [lk, put] using hI.k2),
              k3 := (by simpa [lk, put] using hI.k3),
              k20 := (by simpa [lk, put] using hI.k20),
              k21 := (by simpa [lk, put] using hI.k21),
              k24 := (by simpa [lk, put] using hI.k24),
              k25 := (by simpa [lk, put] using hI.k25),
              f5 := fun q => (by have z := hI.f5 (by simpa using q); simpa [lk, put] using z),
              f6 := fun q => (by have z := hI.f6 (by simpa using q); simpa [lk, put] using z),
              f7 := fun q => (by have z := hI.f7 (by simpa using q); simpa [lk, put] using z),
              f10 := fun q => (by have z := hI.f10 (by simpa using q); simpa [lk, put] using z),
              f11 := fun q => (by have z := hI.f11 (by simpa using q); simpa [lk, put] using z),
              f14 := fun q => (by have z := hI.f14 (by simpa using q); simpa [lk, put] using z),
              f15 := fun q => (by have z := hI.f15 (by simpa using q); simpa [lk, put] using z),
              f16 := fun _ => (by simp [lk, put]),
              d10 := fun q => (by have z := hI.d10; simp only [List.mem_cons] at q ⊢; grind),
              d14 := fun q => (by have z := hI.d14; simp only [List.mem_cons] at q ⊢; grind),
              d15 := fun q => (by have z := hI.d15; simp only [List.mem_cons] at q ⊢; grind),
              d17 := fun q => (by have z := hI.d17; simp only [List.mem_cons] at q ⊢; grind),
              bag := (by simpa [n17] using z) }⟩⟩
      · -- 17
        have z15 := hI.f15 (hD 15 (by simp))
        have z16 := hI.f16 (hD 16 (by simp))
        have z := hI.bag
        have m16 := hD 16 (by simp)
        rw [if_neg hni, if_pos m16, ← List.append_assoc] at z
        have z := (z.perm List.perm_middle).set ⟨[byt (M.b.take k ++ leB w n ++ M.b.drop (k + n)), .sl bw (List.length pw) M.w.length cw, .sl bg (List.length pg) M.g.length cg], 0⟩
        have e10 : H c10 = some ⟨[.nils, .nils, .nils], 0⟩ := hI.bag.at (by simp [hni, m16])
        simp (disch := omega) only [push_cast, simprocAttr, wrap_i64, toNat_ofInt64, Nat.min_eq_left, Int.toNat_of_nonneg, hI.k1, hI.k8, hI.k12, hI.k13, hI.k14, hI.k15, hI.k16, hI.k4, hI.k2, hI.k3, hI.k20, hI.k21, hI.k24, hI.k25, rm0, rm1, rm2, rml, lw, lg, tk1, tk2, z15, z16, e10]
        have z := z.perm (List.perm_middle (l₂ := _)).symm
        rw [List.append_assoc] at z
        exact ⟨hst _, hK _ _ ⟨b19, bw, cw, sw, b23, bg, cg, sg, c10, pw, pg, {
              k1 := (by simpa [lk, put] using hI.k1),
              k8 := (by simpa [lk, put] using hI.k8),
              k12 := (by simpa [lk, put] using hI.k12),
              k13 := (by simpa [lk, put] using hI.k13),
              k14 := (by simpa [lk, put] using hI.k14),
              k15 := (by simpa [lk, put] using hI.k15),
              k16 := (by simpa [lk, put] using hI.k16),
              k4 := (by simpa [lk, put] using hI.k4),
              k2 := (by simpa [lk, put] using hI.k2),
              k3 := (by simpa [lk, put] using hI.k3),
              k20 := (by simpa [lk, put] using hI.k20),
              k21 := (by simpa [lk, put] using hI.k21),
              k24 := (by simpa [lk, put] using hI.k24),
              k25 := (by simpa [lk, put] using hI.k25),
              f5 := fun q => (by have z := hI.f5 (by simpa using q); simpa [lk, put] using z),
              f6 := fun q => (by have z := hI.f6 (by simpa using q); simpa [lk, put] using z),
              f7 := fun q => (by have z := hI.f7 (by simpa using q); simpa [lk, put] using z),
              f10 := fun q => (by have z := hI.f10 (by simpa using q); simpa [lk, put] using z),
              f11 := fun q => (by have z := hI.f11 (by simpa using q); simpa [lk, put] using z),
              f14 := fun q => (by have z := hI.f14 (by simpa using q); simpa [lk, put] using z),
              f15 := fun q => (by have z := hI.f15 (by simpa using q); simpa [lk, put] using z),
              f16 := fun q => (by have z := hI.f16 (by simpa using q); simpa [lk, put] using z),
              d10 := fun q => (by have z := hI.d10; simp only [List.mem_cons] at q ⊢; grind),
              d14 := fun q => (by have z := hI.d14; simp only [List.mem_cons] at q ⊢; grind),
              d15 := fun q => (by have z := hI.d15; simp only [List.mem_cons] at q ⊢; grind),
              d17 := fun q => (by have z := hI.d17; simp only [List.mem_cons] at q ⊢; grind),
              bag := (by simpa using z) }⟩⟩
    · intro pre ρ H hall hI
      obtain ⟨b19, bw, cw, sw, b23, bg, cg, sg, c10, pw, pg, hI⟩ := hI
      have hb := hI.bag
      rw [if_pos (hall 10 (by simp)), if_pos (hall 14 (by simp)), if_pos (hall 17 (by simp))] at hb
      have hk1 : keep [1, 8, 10] ρ = [(1, .int .u32 addr.toNat), (8, .ptr c8 0), (10, .ptr c10 0)] := by simp only [keep, List.map_cons, List.map_nil, hI.k1, hI.k8, hI.f16 (hall 16 (by simp))]
      have hnd := hb.nd
      simp only [List.cons_append, List.nil_append, List.map_cons, List.map_nil, List.nodup_cons, List.mem_cons, List.not_mem_nil, or_false, not_or] at hnd
      have := tail c8 c10 bw cw sw bg cg sg pw pg H _ hb (by simp) (by simp) (by simp) (by simp) (by omega)
      rw [← hk1] at this
      exact this
    · constructor <;> first | rfl | (intro q; cases q) | exact B0
  · rintro _ F ⟨r1, rfl, ho⟩
    exact ⟨_, _, ⟨rfl, rfl⟩, Le.tupb ho.le⟩
end
end Go.Ab
