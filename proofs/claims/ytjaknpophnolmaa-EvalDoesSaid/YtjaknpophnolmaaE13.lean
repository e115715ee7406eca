/- The document's memory of a world. -/
import Derived.Test.YtjaknpophnolmaaE12
set_option linter.unusedSimpArgs false
set_option linter.unusedVariables false
set_option maxRecDepth 10000
namespace Go.Ab
open Go.Proofs
variable {G : Glo} {h : Heap}
/-- A heap without a block. -/
def del (h : Heap) (b : Nat) : Heap := fun c => if c = b then none else h c
theorem del_at {h : Heap} {b c : Nat} : del h b c = if c = b then none else h c := rfl
theorem del_ne {h : Heap} {b c : Nat} (hc : c ≠ b) : del h b c = h c := if_neg hc
theorem upd_del {h : Heap} {b : Nat} {x : Blk} (hb : h b = some x) : h = upd (del h b) b x := by
  funext c
  simp only [upd_at, del_at]
  split
  · rename_i e; rw [e, hb]
  · rfl
theorem Le.own {h : Heap} {b n cap : Nat} {cells : List AV} {sp : Nat} (hb : h b = some ⟨cells, sp⟩) (h0 : n = 0 → cells = []) : Le (.sl b 0 n cap) h (.ro cells n) (del h b) := by
  have := Le.freeze (g := del h b) (b := b) (n := n) (cap := cap) (pre := []) (cells := cells) (sp := sp) (by simp [del_at]) h0
  rw [List.nil_append, ← upd_del hb] at this
  exact this
theorem Le.aggd {h : Heap} {b n cap i : Nat} {cells : List AV} {L : List AV} {sp : Nat} (hi : L[i]? = some (.sl b 0 n cap)) (hb : h b = some ⟨cells, sp⟩) (h0 : n = 0 → cells = []) : Le (.agg L) h (.agg (L.set i (.ro cells n))) (del h b) := by
  have := Le.aggf (g := del h b) (cells := cells) (sp := sp) hi (by simp [del_at]) h0
  rw [← upd_del hb] at this
  exact this
theorem Le.less {r : AV} {h g : Heap} (hs : Sub g h) : Le r h r g := by
  intro w v hw hr
  obtain ⟨l1, l2⟩ := hrep_less hw hs
  exact ⟨l1, hr.keep ⟨Nat.le_refl _, fun c _ hn => ⟨fun hd => hn fun e => hd (hs.none e), rfl⟩⟩, fun c hc => hs.none hc⟩
def IRam.cells (M : IRam) : List AV := [byt M.b, .ro (bos M.w) M.w.length, .ro (qws M.g) M.g.length]
abbrev ramV (M : IRam) : AV := .agg M.cells
theorem rPut_spec (b x : List (BitVec 8)) (addr : BitVec 32) (ha : 2147483648 ≤ addr.toNat) (hl : addr.toNat - 2147483648 + x.length ≤ b.length) (hb : b.length ≤ 65536) :
    Spec Try.prog G 38 [byt b, .int .u32 addr.toNat, byt x] h (Is (byt (b.take (addr.toNat - 2147483648) ++ x ++ b.drop (addr.toNat - 2147483648 + x.length))) h) := by
  have hlt := addr.isLt
  have hc : (BitVec.ofInt 64 (addr.toNat : Int)).toNat = addr.toNat := by
    rw [BitVec.ofInt_natCast, BitVec.toNat_ofNat, Nat.mod_eq_of_lt (by omega)]
  obtain ⟨k, hk⟩ : ∃ k, addr.toNat - 2147483648 = k := ⟨_, rfl⟩
  have hk' : (addr.toNat : Int) - 2147483648 = k := by omega
  rw [hk] at hl ⊢
  have q1 : (k : Int) ≤ b.length := by omega
  have q2 : (0 : Int) ≤ (k : Int) + x.length := by omega
  have q3 : (k : Int) + x.length ≤ b.length := by omega
  have q4 : ((k : Int) + x.length).toNat = k + x.length := by omega
  have q5 : List.take (b.length - (k + x.length)) (List.drop (k + x.length) (bys b)) = bys (b.drop (k + x.length)) := by
    rw [bys_drop, List.take_of_length_le (by simp [bys])]
  have q6 : (bys (b.drop (k + x.length))).length = b.length - (k + x.length) := by simp [bys]
  have q7 : List.take k (bys b) = bys (b.take k) := by rw [bys_take]
  have q8 : (bys (b.take k)).length = k := by simp [bys]; omega
  refine Spec.weak (Q := fun r h' => Own 1 h r (bys (b.take k ++ x ++ b.drop (k + x.length))) b.length h') ?_ ?_
  · refine Spec.walk C38ok rfl ?_
    simp (disch := omega) only [push_cast, simprocAttr, wrap_i64, toNat_ofInt64, Nat.min_eq_left, Int.toNat_of_nonneg, hk', byt, q1, q2, q3, q4, q5, q6, q7, q8]
    intro c hc
    have o0 : Own 1 h (.sl c 0 0 0) (bys []) 0 (upd h c ⟨[], 0⟩) := .row c 0 0 [] [] 0 hc rfl (by omega)
    refine o0.app (m := k) (by simp [q8]) (by omega) (by omega) fun v1 h1 o1 => ?_
    simp (disch := omega) only [push_cast, simprocAttr, wrap_i64, toNat_ofInt64, Nat.min_eq_left, Int.toNat_of_nonneg, hk', byt, q1, q2, q3, q4, q5, q6, q7, q8]
    refine o1.app (m := x.length) (by simp [bys]) (by omega) (by omega) fun v2 h2 o2 => ?_
    simp (disch := omega) only [push_cast, simprocAttr, wrap_i64, toNat_ofInt64, Nat.min_eq_left, Int.toNat_of_nonneg, hk', byt, q1, q2, q3, q4, q5, q6, q7, q8]
    refine o2.app (m := b.length - (k + x.length)) (by simp [q6]) (by omega) (by omega) fun v3 h3 o3 => ?_
    simp (disch := omega) only [push_cast, simprocAttr, wrap_i64, toNat_ofInt64, Nat.min_eq_left, Int.toNat_of_nonneg, hk', byt, q1, q2, q3, q4, q5, q6, q7, q8]
    rw [show 0 + k + x.length + (b.length - (k + x.length)) = b.length by omega] at o3
    simpa [bys] using o3
  · rintro _ h' ho
    have hl2 : (b.take k ++ x ++ b.drop (k + x.length)).length = b.length := by simp; omega
    exact ⟨_, _, ⟨rfl, rfl⟩, by rw [byt, hl2]; exact ho.freeze⟩
def PgV (h F : Heap) (n : Nat) (B : List (BitVec 8)) (rw g : Nat) (bv : AV) : Prop := bv = byt B ∨ ∃ b, bv = .sl b 0 n n ∧ F b = some ⟨bys B, 0⟩ ∧ b ≠ rw ∧ b ≠ g ∧ h b = none
def PgQ (h : Heap) (n : Nat) (M : IRam) (r : AV) (F : Heap) : Prop := ∃ bv rw g, r = .agg [bv, .sl rw 0 M.w.length M.w.length, .sl g 0 M.g.length M.g.length] ∧ rw ≠ g ∧ F rw = some ⟨bos M.w, 0⟩ ∧ F g = some ⟨qws M.g, 0⟩ ∧
  PgV h F n M.b rw g bv ∧ (h rw = none ∧ h g = none) ∧ Sub h F
theorem pgQ_le {n : Nat} {M : IRam} {r : AV} {F : Heap} (hn : M.b.length = n) (hq : PgQ h n M r F) : Le r F (ramV M) h := by
  obtain ⟨bv, rw', g, rfl, hne, h1, h2, h3, ⟨h4, h5⟩, h6⟩ := hq
  have e1 : Le (.agg [bv, .sl rw' 0 M.w.length M.w.length, .sl g 0 M.g.length M.g.length]) F (.agg [bv, .ro (bos M.w) M.w.length, .sl g 0 M.g.length M.g.length]) (del F rw') :=
    Le.aggd (i := 1) (L := [bv, .sl rw' 0 M.w.length M.w.length, .sl g 0 M.g.length M.g.length]) rfl h1 (fun e => by simp [bos, List.length_eq_zero_iff.1 e])
  have e2 : Le (.agg [bv, .ro (bos M.w) M.w.length, .sl g 0 M.g.length M.g.length]) (del F rw') (.agg [bv, .ro (bos M.w) M.w.length, .ro (qws M.g) M.g.length]) (del (del F rw') g) :=
    Le.aggd (i := 2) (L := [bv, .ro (bos M.w) M.w.length, .sl g 0 M.g.length M.g.length]) rfl (sp := 0) (by rw [del_ne (Ne.symm hne)]; exact h2) (fun e => by simp [qws, List.length_eq_zero_iff.1 e])
  refine le_trans e1 (le_trans e2 ?_)
  rcases h3 with rfl | ⟨b, rfl, h7, h8, h9, h10⟩
  · refine Le.less fun c x hc => ?_
    rw [del_ne (fun e => by rw [e, h5] at hc; cases hc), del_ne (fun e => by rw [e, h4] at hc; cases hc)]
    exact h6 c x hc
  · have e3 : Le (.agg [.sl b 0 n n, .ro (bos M.w) M.w.length, .ro (qws M.g) M.g.length]) (del (del F rw') g) (.agg [.ro (bys M.b) n, .ro (bos M.w) M.w.length, .ro (qws M.g) M.g.length]) (del (del (del F rw') g) b) :=
      Le.aggd (i := 0) (L := [.sl b 0 n n, .ro (bos M.w) M.w.length, .ro (qws M.g) M.g.length]) rfl (sp := 0) (by rw [del_ne h9, del_ne h8]; exact h7) (fun e => by simp [bys, List.length_eq_zero_iff.1 (hn.trans e)])
    refine le_trans e3 ?_
    rw [ramV, IRam.cells, byt, hn]
    refine Le.less fun c x hc => ?_
    rw [del_ne (fun e => by rw [e, h10] at hc; cases hc), del_ne (fun e => by rw [e, h5] at hc; cases hc), del_ne (fun e => by rw [e, h4] at hc; cases hc)]
    exact h6 c x hc
theorem wdW_all (w : BitVec 16) (n : Nat) (hn : n ≤ 16) : wdW w n n = wdW w n 16 := by
  apply List.ext_getElem?
  intro i
  by_cases hi : i < n
  · have : i < 16 := by omega
    simp [wdW, hi, this]
  · rw [List.getElem?_eq_none (by simp [wdW]; omega), List.getElem?_eq_none (by simp [wdW]; omega)]
theorem Pages_spec {w : IWd} {n : Nat} (hl : w.regs.length = 32) (hs : w.size = n) (hn : rightN n = true) (hn2 : n ≤ 1024) (hb : w.b.length ≤ n) :
    Spec Try.prog G 17 [.agg w.cells] h (Is (ramV (wdM w n 16)) h) := by
  obtain ⟨w0, w32, w33, w34, wr⟩ := wd_at hl
  rw [hs] at w32
  have hn' := hn
  simp only [rightN, Bool.and_eq_true, decide_eq_true_eq] at hn'
  have hbl : (wdM w n 16).b.length = n := by simp [wdM, wdB]; omega
  refine Spec.weak (Q := PgQ h n (wdM w n 16)) ?_ fun r F hq => ⟨_, _, ⟨rfl, rfl⟩, pgQ_le hbl hq⟩
  obtain ⟨p, hp⟩ : ∃ p, n / 64 = p := ⟨_, rfl⟩
  refine Spec.walk C17ok rfl ?_
  simp only [push_cast, simprocAttr, w32, w33, w34, wr, w0]
  intro c2 hc2
  have m2 : upd h c2 ⟨[.nils, .nils, .nils], 0⟩ c2 = some ⟨[.nils, .nils, .nils], 0⟩ := upd_same _ _ _
  have s2 : Sub h (upd h c2 ⟨[.nils, .nils, .nils], 0⟩) := (Sub.refl h).alloc hc2
  generalize upd h c2 ⟨[.nils, .nils, .nils], 0⟩ = H2 at m2 s2 ⊢
  refine (rNew_spec n hn).mono ?_
  rintro _ _ ⟨b, rw', g, ⟨nbw, nbg, nwg⟩, ⟨fb, fw, fg⟩, rfl, rfl⟩
  simp only [push_cast, simprocAttr, w32, w33, w34, wr, w0]
  have L1 : (IRam.new n).b.length = n := by simp [IRam.new]
  have L2 : (IRam.new n).w.length = p := by simp [IRam.new, hp]
  have L3 : (IRam.new n).g.length = p := by simp [IRam.new, hp]
  rw [L1, L2, L3]
  intro c3 hc3
  have r1 : rowsH H2 b rw' g (IRam.new n) b = some ⟨bys (IRam.new n).b, 0⟩ := by rw [rowsH, upd_ne nbg, upd_ne nbw, upd_same]
  have r2 : rowsH H2 b rw' g (IRam.new n) rw' = some ⟨bos (IRam.new n).w, 0⟩ := by rw [rowsH, upd_ne nwg, upd_same]
  have r3 : rowsH H2 b rw' g (IRam.new n) g = some ⟨qws (IRam.new n).g, 0⟩ := by rw [rowsH, upd_same]
  have r4 : Sub H2 (rowsH H2 b rw' g (IRam.new n)) := ((Sub.refl H2).set fb).set (h := H2) fw |>.set fg
  generalize rowsH H2 b rw' g (IRam.new n) = H3 at hc3 r1 r2 r3 r4 ⊢
  have k3b : c3 ≠ b := fun e => by rw [e, r1] at hc3; cases hc3
  have k3w : c3 ≠ rw' := fun e => by rw [e, r2] at hc3; cases hc3
  have k3g : c3 ≠ g := fun e => by rw [e, r3] at hc3; cases hc3
  have k32 : c3 ≠ c2 := fun e => by rw [e, r4 c2 _ m2] at hc3; cases hc3
  have k2b : c2 ≠ b := fun e => by rw [e, fb] at m2; cases m2
  have k2w : c2 ≠ rw' := fun e => by rw [e, fw] at m2; cases m2
  have k2g : c2 ≠ g := fun e => by rw [e, fg] at m2; cases m2
  have hh3 : h c3 = none := by
    cases e : h c3 with
    | none => rfl
    | some x => have := r4 c3 _ (s2 c3 _ e); rw [hc3] at this; cases this
  have hhb : h b = none := s2.none fb
  have hhw : h rw' = none := s2.none fw
  have hhg : h g = none := s2.none fg
  -- what holds when the loop begins
  have loop : ∀ (H : Heap) (bv : AV), H c3 = some ⟨[bv, .sl rw' 0 p p, .sl g 0 p p], 0⟩ → H c2 = some ⟨[.nils, .nils, .nils], 0⟩ → H rw' = some ⟨bos (wdW w.w p 0), 0⟩ → H g = some ⟨qws (IRam.new n).g, 0⟩ → PgV h H n (wdB w n) rw' g bv → (∀ b, bv = .sl b 0 n n → b ≠ c2 ∧ b ≠ c3) → Sub h H →
      lpc Try.prog G Try.f17.ntmps C17_14 (blk 0 (thn [2, 3] (wpc Try.prog G Try.f17.ntmps C17_19 (retQ C17r (PgQ h n (wdM w n 16)))) (retQ C17r (PgQ h n (wdM w n 16)))))
        [(1, .cp w.cells 0), (2, .ptr c2 0), (3, .ptr c3 0), (4, .int .i64 0)] H := by
    intro H bv a1 a2 a3 a4 a5 a6 a7
    refine lpc.rel [1, 2, 3, 4] (fun m ρ H' => ∃ k : Nat, m = p - k ∧ k ≤ p ∧ H' c3 = some ⟨[bv, .sl rw' 0 p p, .sl g 0 p p], 0⟩ ∧ H' c2 = some ⟨[.nils, .nils, .nils], 0⟩ ∧ H' rw' = some ⟨bos (wdW w.w p k), 0⟩ ∧ H' g = some ⟨qws (IRam.new n).g, 0⟩ ∧ PgV h H' n (wdB w n) rw' g bv ∧ Sub h H' ∧
      ρ = [(1, .cp w.cells 0), (2, .ptr c2 0), (3, .ptr c3 0), (4, .int .i64 (k : Int))]) ⟨_, 0, rfl, by omega, a1, a2, a3, a4, a5, a7, rfl⟩ ?_
    clear a1 a2 a3 a4 a5 a7
    rintro m _ H' ⟨k, rfl, hk, a1, a2, a3, a4, a5, a7, rfl⟩
    have hbit := bit16 w.w k
    have hm : min (BitVec.ofInt 64 (k : Int)).toNat 16 = k := by
      rw [BitVec.ofInt_natCast, BitVec.toNat_ofNat, Nat.mod_eq_of_lt (by omega)]; omega
    simp only [push_cast, simprocAttr, w32, w33, w34, wr, w0, hm, hbit, a1, a2, a3, a4]
    refine ⟨fun q => ⟨q.2, by rw [wdW_len]; omega, ?_⟩, fun q => ?_⟩
    · have hS := wdW_S w.w p k
      have e1 : (wdW w.w p k).set k ((if w.w.getLsbD k = true then (1 : Int) else 0) == 1) = wdW w.w p (k + 1) := by
        rw [hS]
        cases e : w.w.getLsbD k
        · simp
          apply List.ext_getElem?
          intro i
          rw [List.getElem?_set]
          split
          · rename_i hi; subst hi; simp [wdW, q.2]
          · rfl
        · simp
      rw [e1]
      simp (disch := omega) only [push_cast, simprocAttr, wrap_i64, toNat_ofInt64, Nat.min_eq_left, Int.toNat_of_nonneg]
      refine ⟨_, _, by omega, .refl _, k + 1, rfl, by omega, by rw [upd_ne k3w]; exact a1, by rw [upd_ne k2w]; exact a2, upd_same _ _ _, by rw [upd_ne (Ne.symm nwg)]; exact a4, ?_, fun c x hc => ?_, rfl⟩
      · rcases a5 with e | ⟨b', e, e2, e3, e4, e5⟩
        · exact .inl e
        · exact .inr ⟨b', e, by rw [upd_ne e3]; exact e2, e3, e4, e5⟩
      · rw [upd_ne (fun e => by rw [e, hhw] at hc; cases hc)]
        exact a7 c x hc
    · have hkp : k = p := by
        simp only [Bool.and_eq_false_iff, decide_eq_false_iff_not] at q
        omega
      subst hkp
      have hp' : wdW w.w (n / 64) 16 = wdW w.w k k := by rw [hp, wdW_all _ _ (by omega)]
      refine ⟨bv, rw', g, by simp [wdM, wdW_len, hp], nwg, ?_, ?_, ?_, ⟨hhw, hhg⟩, ?_⟩
      · rw [upd_ne (Ne.symm k2w), wdM, hp']; exact a3
      · rw [upd_ne (Ne.symm k2g), wdM, hp, a4]; simp [IRam.new, hp]
      · rcases a5 with e | ⟨b', e, e2, e3, e4, e5⟩
        · exact .inl e
        · exact .inr ⟨b', e, by rw [upd_ne (a6 b' e).1]; exact e2, e3, e4, e5⟩
      · exact a7.set hc2
  obtain ⟨f1, f2⟩ := wd_fill hn hb
  have hB : wdB w n = (IRam.new n).b.take 0 ++ w.b ++ (IRam.new n).b.drop (0 + w.b.length) := by simp [wdB, IRam.new]
  have hW0 : (IRam.new n).w = wdW w.w p 0 := by rw [wdW_0, ← hp]; rfl
  obtain ⟨H4, hH4⟩ : ∃ H4, upd H3 c3 ⟨[.sl b 0 n n, .sl rw' 0 p p, .sl g 0 p p], 0⟩ = H4 := ⟨_, rfl⟩
  have g1 : H4 c3 = some ⟨[.sl b 0 n n, .sl rw' 0 p p, .sl g 0 p p], 0⟩ := by rw [← hH4, upd_same]
  have g2 : H4 c2 = some ⟨[.nils, .nils, .nils], 0⟩ := by rw [← hH4, upd_ne (Ne.symm k32)]; exact r4 c2 _ m2
  have g3 : H4 rw' = some ⟨bos (wdW w.w p 0), 0⟩ := by rw [← hH4, upd_ne (Ne.symm k3w), r2, hW0]
  have g4 : H4 g = some ⟨qws (IRam.new n).g, 0⟩ := by rw [← hH4, upd_ne (Ne.symm k3g), r3]
  have g5 : H4 b = some ⟨bys (IRam.new n).b, 0⟩ := by rw [← hH4, upd_ne (Ne.symm k3b), r1]
  have g6 : Sub h H4 := hH4 ▸ (s2.trans r4).alloc hc3
  rw [hH4]
  clear hH4
  refine ⟨fun q => ?_, fun q => ?_⟩
  · refine Spec.preN (a' := byt (IRam.new n).b) (h1 := del H4 b) (by rw [byt, L1]; exact Le.own g5 (fun e => by simp [IRam.new, e, bys])) ?_
    refine (rPut_spec (IRam.new n).b w.b 2147483648#32 (by decide) (by rw [L1]; simp; omega) (by rw [L1]; omega)).to ?_
    rw [show (2147483648#32).toNat - 2147483648 = 0 from rfl, ← hB]
    have d1 : del H4 b c3 = some ⟨[.sl b 0 n n, .sl rw' 0 p p, .sl g 0 p p], 0⟩ := by rw [del_ne k3b]; exact g1
    have d2 : del H4 b c2 = some ⟨[.nils, .nils, .nils], 0⟩ := by rw [del_ne k2b]; exact g2
    have d3 : del H4 b rw' = some ⟨bos (wdW w.w p 0), 0⟩ := by rw [del_ne (Ne.symm nbw)]; exact g3
    have d4 : del H4 b g = some ⟨qws (IRam.new n).g, 0⟩ := by rw [del_ne (Ne.symm nbg)]; exact g4
    have d6 : Sub h (del H4 b) := fun c x hc => by rw [del_ne (fun e => by rw [e, hhb] at hc; cases hc)]; exact g6 c x hc
    generalize del H4 b = H5 at d1 d2 d3 d4 d6 ⊢
    simp only [push_cast, simprocAttr, d1]
    refine loop _ (byt (wdB w n)) (upd_same _ _ _) (by rw [upd_ne (Ne.symm k32)]; exact d2) (by rw [upd_ne (Ne.symm k3w)]; exact d3) (by rw [upd_ne (Ne.symm k3g)]; exact d4) (.inl rfl) (fun b' e => by cases e) (d6.set hh3)
  · have h0 : w.b = [] := List.length_eq_zero_iff.1 (by omega)
    have hB' : wdB w n = (IRam.new n).b := by simp [wdB, h0, IRam.new]
    exact loop H4 (.sl b 0 n n) g1 g2 g3 g4 (.inr ⟨b, rfl, by rw [hB']; exact g5, nbw, nbg, hhb⟩) (fun b' e => by cases e; exact ⟨Ne.symm k2b, Ne.symm k3b⟩) g6
end Go.Ab
