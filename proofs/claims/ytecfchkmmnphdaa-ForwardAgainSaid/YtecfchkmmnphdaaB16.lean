/- Contracts: forward.Do. -/
import Derived.Test.YtecfchkmmnphdaaB15
set_option linter.unusedSimpArgs false
set_option linter.unusedVariables false
set_option maxRecDepth 10000
namespace Go.Ab
open Go.Proofs
variable {G : Glo} {h : Heap}
theorem rows_nil {sz : Nat} {g h : Heap} {vs : List AV} {ms : List (List AV × Nat)} (hr : Rows sz g vs ms h) (hv : vs = []) : h = g := by
  cases hr with
  | nil => rfl
  | snoc hr ho => simp at hv
theorem step_eq (f : Fw) (o : IOp) : f.step o = ⟨if 0 ≤ knownN f.l f.stored (ren f.to o) then f.l else f.l ++ [ren f.to o], f.to ++ [if 0 ≤ knownN f.l f.stored (ren f.to o) then knownN f.l f.stored (ren f.to o) else (f.l.length : Int)],
    if 0 ≤ knownN f.l f.stored (ren f.to o) then f.stored else if (ren f.to o).code = 5 then (f.l.length : Int) else f.stored⟩ := by
  unfold Fw.step
  simp only
  split <;> rfl
def mapK {α : Type} (f : α → α) (l : List α) (k : Nat) : List α := (l.take k).map f ++ l.drop k
theorem mapK_len {α : Type} (f : α → α) (l : List α) (k : Nat) : (mapK f l k).length = l.length := by simp [mapK]; omega
theorem mapK_get {α : Type} {f : α → α} {l : List α} {k : Nat} (d : α) (hk : k < l.length) : (mapK f l k).getD k d = l.getD k d := by
  have h1 : ((l.take k).map f).length = k := by simp; omega
  rw [mapK, List.getD_eq_getElem?_getD, List.getElem?_append_right (by omega), h1, Nat.sub_self]
  simp [hk]
theorem mapK_set {α : Type} {f : α → α} {l : List α} {k : Nat} (d : α) (hk : k < l.length) : (mapK f l k).set k (f (l.getD k d)) = mapK f l (k + 1) := by
  have h1 : ((l.take k).map f).length = k := by simp; omega
  rw [mapK, mapK, List.set_append_right _ _ (by omega), h1, Nat.sub_self, List.drop_eq_getElem_cons hk, List.set_cons_zero, List.take_add_one, List.map_append]
  simp [hk]
theorem Do_spec (b : IBk) (hw : b.wf) (hc : b.check = 0) : Spec Try.prog G 36 [bkP b] h (Is (.tup [bkP b.fw, .int .i64 0]) h) := by
  obtain ⟨hops, hexs⟩ := right_parts hc
  obtain ⟨hs1, hs2, hs3⟩ := hw.hs
  refine Spec.weak (Q := fun r h' => ∃ b9 g h2 vx, r = .tup [.ptr b9 0, .int .i64 0] ∧ Sub h g ∧ ExO g vx b.fw.exits h2 ∧ h2 b9 = none ∧
    h' = Ab.upd h2 b9 ⟨[.ro (wds b.pcs) b.pcs.length, ops b.fw.ops, vx, .int .i64 b.last], 0⟩) ?_ ?_
  · refine Spec.walk C36ok rfl ?_
    simp only [push_cast, simprocAttr]
    refine (Check_spec b hw).to ?_
    rw [hc]
    simp only [push_cast, simprocAttr]
    refine (Clone_spec b hw).mono ?_
    rintro _ h1 ⟨c3, g, vx, rfl, hs, hc3, hx⟩
    have hc3' := hx.sub c3 _ hc3
    simp only [push_cast, simprocAttr, hc3']
    intro b5 hb5
    refine lpc.rel [5, 30, 31, 32] (fun m ρ h' => ∃ (k : Nat) (vt : AV) (g gg : Heap), m = b.ops.length - k ∧ k ≤ b.ops.length ∧ Sub h g ∧ ExO g vx b.exits gg ∧ gg b5 = none ∧ RdO gg b5 (.ro (wds b.pcs) b.pcs.length) vx (.int .i64 b.last) (fwd (b.ops.take k)).l vt (fwd (b.ops.take k)).to (fwd (b.ops.take k)).stored h' ∧
      ρ = [(5, .ptr b5 0), (30, ops b.ops), (31, .int .i64 (b.ops.length : Int)), (32, .int .i64 (k : Int))]) ⟨_, 0, .nils, g, h1, rfl, by omega, hs, hx, hb5, ⟨.nils, _, .nil, .nil⟩, rfl⟩ ?_
    rintro m _ h2 ⟨k, vt, g, gg, rfl, hk, hs, hx, hb5, hr, rfl⟩
    simp only [push_cast, simprocAttr]
    refine ⟨fun hk2 => ⟨hk2, hk2, fun c hc => ?_⟩, fun hk2 => ?_⟩
    · rw [era_none hc]
      have hfs := fwd_succ b.ops k hk2
      have hst := step_eq (fwd (b.ops.take k)) (b.ops.getD k IOp.zero)
      rw [← hfs] at hst
      have htl : (fwd (b.ops.take k)).to.length = k := by rw [fwd_to, List.length_take]; omega
      have hll := fwd_l (b.ops.take k)
      rw [List.length_take] at hll
      have hstl := fwd_st (b.ops.take k)
      have hok := renOK_of (hops k hk2) htl
      generalize fwd (b.ops.take k) = f at *
      have hr0 := hr
      obtain ⟨vo, j1, o1, o2⟩ := hr
      have hbb := o2.get (o1.get (upd_same _ _ _))
      simp only [push_cast, simprocAttr, hbb]
      refine (fop_spec hr0 (by omega) hstl (b.ops.getD k IOp.zero) hok).mono ?_
      rintro _ h6 ⟨c', x, hcg, hcb, rfl, hr6⟩
      obtain ⟨xo, j2, x1, x2⟩ := hr6
      have hb6 := x2.get (x1.get (upd_same _ _ _))
      simp only [push_cast, simprocAttr, hb6]
      refine Own.app x2 (m := 1) rfl (by omega) (by omega) fun v3 h7 o7 => ?_
      have hb7 := o7.get (x1.get (upd_same _ _ _))
      simp (disch := omega) only [push_cast, simprocAttr, wrap_i64, toNat_ofInt64, Nat.min_eq_left, Int.toNat_of_nonneg, hb7, o7.one]
      have y2 := Own.upd o7 (b := b5) (x := ⟨[.ro (wds b.pcs) b.pcs.length, xo, vx, .int .i64 b.last, v3, .int .i64 (if 0 ≤ knownN f.l f.stored (ren f.to (b.ops.getD k IOp.zero)) then f.stored else if (ren f.to (b.ops.getD k IOp.zero)).code = 5 then (f.l.length : Int) else f.stored)], 0⟩) (.inr ⟨_, x1.get (upd_same _ _ _)⟩)
      have y1 := Own.upd x1 (b := b5) (x := ⟨[.ro (wds b.pcs) b.pcs.length, xo, vx, .int .i64 b.last, v3, .int .i64 (if 0 ≤ knownN f.l f.stored (ren f.to (b.ops.getD k IOp.zero)) then f.stored else if (ren f.to (b.ops.getD k IOp.zero)).code = 5 then (f.l.length : Int) else f.stored)], 0⟩) (.inr ⟨_, upd_same _ _ _⟩)
      rw [upd_upd] at y1
      refine ⟨_, _, by omega, .refl _, k + 1, v3, Ab.upd g c' x, Ab.upd gg c' x, rfl, by omega, sub_upd (hs.none (hx.sub.none hcg)) hs, hx.upd (.inl hcg), by rw [upd_ne (fun e => hcb e.symm)]; exact hb5, ?_, rfl⟩
      rw [hst]
      refine ⟨xo, _, y1, ?_⟩
      simp only [List.map_append, List.length_append]
      exact y2
    · obtain rfl : k = b.ops.length := by omega
      rw [List.take_length] at hr
      obtain ⟨vo, j1, o1, o2⟩ := hr
      have hj := o1.get (upd_same _ _ _)
      have e1 := upd_self hj
      rw [← e1] at o2
      have o1' := Own.upd o1 (b := b5) (x := ⟨[.ro (wds b.pcs) b.pcs.length, vo, vx, .int .i64 b.last, .ro ((fwd b.ops).to.map (.int .i64)) (fwd b.ops).to.length, .int .i64 (fwd b.ops).stored], 0⟩) (.inr ⟨_, upd_same _ _ _⟩)
      rw [upd_upd] at o1'
      refine ⟨_, _, le_trans (Le.cell o2 (cs' := [.ro (wds b.pcs) b.pcs.length, vo, vx, .int .i64 b.last, .ro ((fwd b.ops).to.map (.int .i64)) (fwd b.ops).to.length, .int .i64 (fwd b.ops).stored]) rfl (fun i => ?_))
        (Le.cell o1' (cs' := [.ro (wds b.pcs) b.pcs.length, ops (fwd b.ops).l, vx, .int .i64 b.last, .ro ((fwd b.ops).to.map (.int .i64)) (fwd b.ops).to.length, .int .i64 (fwd b.ops).stored]) rfl (fun i => ?_)), ?_⟩
      · match i with
        | 0 => exact .inl rfl
        | 1 => exact .inl rfl
        | 2 => exact .inl rfl
        | 3 => exact .inl rfl
        | 4 => exact .inr ⟨rfl, rfl⟩
        | 5 => exact .inl rfl
        | i + 6 => exact .inl rfl
      · match i with
        | 0 => exact .inl rfl
        | 1 => exact .inr ⟨rfl, rfl⟩
        | 2 => exact .inl rfl
        | 3 => exact .inl rfl
        | 4 => exact .inl rfl
        | 5 => exact .inl rfl
        | i + 6 => exact .inl rfl
      clear o1 o2 o1' hj e1
      have htl := fwd_to b.ops
      have hx2 := hx.upd (x := ⟨[.ro (wds b.pcs) b.pcs.length, ops (fwd b.ops).l, vx, .int .i64 b.last, .ro ((fwd b.ops).to.map (.int .i64)) (fwd b.ops).to.length, .int .i64 (fwd b.ops).stored], 0⟩) (.inl hb5)
      have hG := upd_same g b5 (⟨[.ro (wds b.pcs) b.pcs.length, ops (fwd b.ops).l, vx, .int .i64 b.last, .ro ((fwd b.ops).to.map (.int .i64)) (fwd b.ops).to.length, .int .i64 (fwd b.ops).stored], 0⟩)
      have hsG : Sub h (Ab.upd g b5 ⟨[.ro (wds b.pcs) b.pcs.length, ops (fwd b.ops).l, vx, .int .i64 b.last, .ro ((fwd b.ops).to.map (.int .i64)) (fwd b.ops).to.length, .int .i64 (fwd b.ops).stored], 0⟩) := sub_upd (hs.none (hx.sub.none hb5)) hs
      generalize Ab.upd g b5 _ = G1 at hx2 hG hsG
      generalize Ab.upd gg b5 _ = H1 at hx2 ⊢
      have hH := hx2.sub b5 _ hG
      have hal : alen vx = some b.exits.length := by
        obtain ⟨_, _, o, _⟩ := hx2
        exact o.alen
      simp only [push_cast, simprocAttr, hH, hal]
      refine lpc.rel [5, 55, 56] (fun m ρ h' => ∃ k : Nat, m = b.exits.length - k ∧ k ≤ b.exits.length ∧ ExO G1 vx (mapK (renE (fwd b.ops).to) b.exits k) h' ∧
        ρ = [(5, .ptr b5 0), (55, .int .i64 (b.exits.length : Int)), (56, .int .i64 (k : Int))]) ⟨_, 0, rfl, by omega, hx2, rfl⟩ ?_
      rintro m _ h3 ⟨k, rfl, hk, hx3, rfl⟩
      have hH3 := hx3.sub b5 _ hG
      by_cases hk2 : k < b.exits.length
      · have hlk := mapK_len (renE (fwd b.ops).to) b.exits k
        have hx4 := hx3
        obtain ⟨h4, ws, o, r⟩ := hx4
        obtain ⟨br, pre, cap, sp, hv, e2, e3, e4⟩ := own_lie o (by omega)
        rw [hlk] at hv
        subst hv
        have hgk := mapK_get (f := renE (fwd b.ops).to) IEx.zero hk2
        have hml := getD_map (n := k) hs3
        simp only [push_cast, simprocAttr, hH3, hk2]
        refine (exit2_spec hG hx3 (by omega) (by omega) (by rw [hgk]; exact exOK_of (hexs k hk2) htl) (by rw [hgk]; exact hml)).mono ?_
        rintro _ h5 hx5
        rw [hgk, mapK_set _ hk2] at hx5
        simp (disch := omega) only [push_cast, simprocAttr, wrap_i64, toNat_ofInt64, Nat.min_eq_left, Int.toNat_of_nonneg]
        exact ⟨_, _, by omega, .refl _, k + 1, rfl, by omega, hx5, rfl⟩
      · obtain rfl : k = b.exits.length := by omega
        have hme : mapK (renE (fwd b.ops).to) b.exits b.exits.length = b.fw.exits := by simp [mapK, IBk.fw]
        rw [hme] at hx3
        simp only [push_cast, simprocAttr, hH3, hk2]
        intro b9 hb9
        simp only [push_cast, simprocAttr]
        exact ⟨b9, G1, h3, vx, rfl, hsG, hx3, hb9, rfl⟩
  · rintro _ _ ⟨b9, g, h2, vx, rfl, hs, hx, hb9, rfl⟩
    have hx2 := hx.upd (x := ⟨[.ro (wds b.pcs) b.pcs.length, ops b.fw.ops, vx, .int .i64 b.last], 0⟩) (.inl hb9)
    have hg9 := hx.sub.none hb9
    refine ⟨_, _, ⟨rfl, rfl⟩, le_tup1 ?_⟩
    obtain ⟨h3, ws, o, r⟩ := hx2
    have hwl : ws.length = b.fw.exits.length := by have := r.len; simpa using this
    have key : ∀ H, Own 5 (Ab.upd g b9 ⟨[.ro (wds b.pcs) b.pcs.length, ops b.fw.ops, vx, .int .i64 b.last], 0⟩) vx (b.fw.exits.flatMap IEx.cells) b.fw.exits.length H → Le (.ptr b9 0) H (bkP b.fw) h := by
      intro H oH
      refine le_trans (Le.cell oH (cs' := b.fw.cells) rfl (fun i => ?_)) (le_trans (Le.box hg9) (le_sub hs (Le.refl _ _)))
      match i with
      | 0 => exact .inl rfl
      | 1 => exact .inl rfl
      | 2 => exact .inr ⟨rfl, rfl⟩
      | 3 => exact .inl rfl
      | i + 4 => exact .inl rfl
    by_cases h0 : b.fw.exits.length = 0
    · have he : b.fw.exits = [] := List.eq_nil_of_length_eq_zero h0
      rw [he] at o r key
      have hws : ws = [] := List.eq_nil_of_length_eq_zero (by omega)
      obtain rfl := rows_nil r hws
      rw [hws] at o
      exact key _ o
    · obtain ⟨br, pre, cap, sp, rfl, e2, e3, e4⟩ := own_lie o (by omega)
      have e5 := upd_self e2
      rw [← e5] at r
      refine le_trans (Rows.freeze r (cs' := pre ++ b.fw.exits.flatMap IEx.cells) ?_ ?_) (key _ (e4 _ ?_))
      · rw [List.length_append, List.length_append, rowOf_len _ _ hwl, flat_len IEx.cells 5 _ (fun x _ => IEx.len x)]
      · intro i
        by_cases hi : i < pre.length
        · left
          rw [List.getElem?_append_left hi, List.getElem?_append_left hi]
        · rw [List.getElem?_append_right (by omega), List.getElem?_append_right (by omega)]
          generalize i - pre.length = q
          by_cases hq : q < b.fw.exits.length * 5
          · have hq2 : q = q / 5 * 5 + q % 5 := by omega
            have hk : q / 5 < b.fw.exits.length := by omega
            have hj : q % 5 < 5 := by omega
            generalize q / 5 = k at hq2 hk
            generalize q % 5 = j at hq2 hj
            subst hq2
            rw [rowOf_get _ _ _ _ hwl hk hj, flat_getD IEx.cells 5 _ IEx.zero IEx.len _ _ hj, if_pos hk]
            match j, hj with
            | 0, _ => exact .inl rfl
            | 1, _ => exact .inl rfl
            | 2, _ => exact .inl rfl
            | 3, _ => exact .inl rfl
            | 4, _ => exact .inr ⟨k, ws.getD k .nils, (mp (b.fw.exits.getD k IEx.zero)).1, (mp (b.fw.exits.getD k IEx.zero)).2, by simp [hwl, hk], by simp [hk], rfl, rfl⟩
          · left
            rw [List.getElem?_eq_none, List.getElem?_eq_none]
            · rw [rowOf_len _ _ hwl]; omega
            · rw [flat_len IEx.cells 5 _ (fun x _ => IEx.len x)]; omega
      · rw [rowOf_len _ _ hwl, flat_len IEx.cells 5 _ (fun x _ => IEx.len x)]
end Go.Ab
