/- Contracts: a block's clone. -/
import Derived.Test.YtecfchkmmnphdaaB10
import Derived.Test.YtecfchkmmnphdaaLr
set_option linter.unusedSimpArgs false
set_option linter.unusedVariables false
set_option maxRecDepth 10000
namespace Go.Ab
open Go.Proofs
variable {G : Glo} {h : Heap}
def exC (e : IEx) (v : AV) : List AV := [.int .i64 e.done, .int .u32 (e.pc.toNat : Int), .int .i64 e.to, .int .i64 e.why, v]
theorem exC_self (e : IEx) : exC e (vls e.map) = e.cells := rfl
def rowOf : List IEx → List AV → List AV
  | e :: es, v :: vs => exC e v ++ rowOf es vs
  | _, _ => []
def vlsm (e : IEx) : AV := vls e.map
def mp (e : IEx) : List AV × Nat := (e.map.flatMap IVl.cells, e.map.length)
theorem rowOf_self (es : List IEx) : rowOf es (es.map vlsm) = es.flatMap IEx.cells := by
  induction es with
  | nil => rfl
  | cons e es ih => simp only [List.map_cons, rowOf, List.flatMap_cons, ih]; rfl
theorem rowOf_len (es : List IEx) : ∀ (vs : List AV), vs.length = es.length → (rowOf es vs).length = es.length * 5 := by
  induction es with
  | nil => intro vs _; simp [rowOf]
  | cons e es ih =>
    intro vs hl
    match vs, hl with
    | v :: vs, hl =>
      have := ih vs (by simpa using hl)
      simp only [rowOf, List.length_append, this, exC, List.length_cons, List.length_nil]
      omega
theorem rowOf_get (es : List IEx) : ∀ (vs : List AV) (k j : Nat), vs.length = es.length → k < es.length → j < 5 → (rowOf es vs)[k * 5 + j]? = (exC (es.getD k IEx.zero) (vs.getD k .nils))[j]? := by
  induction es with
  | nil => intro vs k j _ hk; simp at hk
  | cons e es ih =>
    intro vs k j hl hk hj
    match vs, hl with
    | v :: vs, hl =>
      cases k with
      | zero =>
        simp only [rowOf, Nat.zero_mul, Nat.zero_add]
        rw [List.getElem?_append_left (by simpa [exC] using hj)]
        rfl
      | succ k =>
        simp only [rowOf]
        rw [List.getElem?_append_right (by simp [exC]; omega)]
        have : (k + 1) * 5 + j - (exC e v).length = k * 5 + j := by simp [exC]; omega
        rw [this, ih vs k j (by simpa using hl) (by simpa using hk) hj]
        rfl
theorem rowOf_set (es : List IEx) : ∀ (vs : List AV) (k : Nat) (v : AV), vs.length = es.length → k < es.length → (rowOf es vs).set (k * 5 + 4) v = rowOf es (vs.set k v) := by
  induction es with
  | nil => intro vs k v _ hk; simp at hk
  | cons e es ih =>
    intro vs k v' hl hk
    match vs, hl with
    | v :: vs, hl =>
      cases k with
      | zero => rfl
      | succ k =>
        simp only [rowOf, List.set_cons_succ]
        rw [List.set_append_right _ _ (by simp [exC]; omega)]
        have : (k + 1) * 5 + 4 - (exC e v).length = k * 5 + 4 := by simp [exC]; omega
        rw [this, ih vs k v' (by simpa using hl) (by simpa using hk)]
theorem rowOf_set2 (es : List IEx) : ∀ (vs : List AV) (k : Nat) (x : Int), vs.length = es.length → k < es.length → (rowOf es vs).set (k * 5 + 2) (.int .i64 x) = rowOf (es.set k { es.getD k IEx.zero with to := x }) vs := by
  induction es with
  | nil => intro vs k v _ hk; simp at hk
  | cons e es ih =>
    intro vs k x hl hk
    match vs, hl with
    | v :: vs, hl =>
      cases k with
      | zero => rfl
      | succ k =>
        simp only [rowOf, List.set_cons_succ]
        rw [List.set_append_right _ _ (by simp [exC]; omega)]
        have : (k + 1) * 5 + 2 - (exC e v).length = k * 5 + 2 := by simp [exC]; omega
        rw [this, ih vs k x (by simpa using hl) (by simpa using hk)]
        rfl
/-- A block's exits, all of one's own. -/
def ExO (g : Heap) (vx : AV) (es : List IEx) (h : Heap) : Prop := ∃ h1 ws, Own 5 g vx (rowOf es ws) es.length h1 ∧ Rows 2 h1 ws (es.map mp) h
theorem ExO.sub {g vx es} (hx : ExO g vx es h) : Sub g h := by
  obtain ⟨h1, ws, o, r⟩ := hx
  exact o.sub.trans r.sub
theorem ExO.upd {g vx es} (hx : ExO g vx es h) {b : Nat} {x : Blk} (hb : h b = none ∨ ∃ y, g b = some y) : ExO (Ab.upd g b x) vx es (Ab.upd h b x) := by
  obtain ⟨h1, ws, o, r⟩ := hx
  rcases hb with hb | ⟨y, hy⟩
  · exact ⟨_, ws, o.upd (.inl (r.sub.none hb)), r.upd (.inl hb)⟩
  · exact ⟨_, ws, o.upd (.inr ⟨y, hy⟩), r.upd (.inr ⟨y, o.sub b y hy⟩)⟩
theorem Clone_spec (b : IBk) (hw : b.wf) : Spec Try.prog G 61 [bkP b] h (fun r h' => ∃ c g vx, r = .ptr c 0 ∧ Sub h g ∧ g c = some ⟨[.ro (wds b.pcs) b.pcs.length, ops b.ops, vx, .int .i64 b.last], 0⟩ ∧ ExO g vx b.exits h') := by
  have hp := hw.hp
  obtain ⟨hs1, hs2, hs3⟩ := hw.hs
  refine Spec.walk C61ok rfl ?_
  simp only [push_cast, simprocAttr]
  refine (cloneP_spec b.pcs hw.hq).to ?_
  simp only [push_cast, simprocAttr]
  refine (cloneO_spec b.ops hs1).to ?_
  simp only [push_cast, simprocAttr]
  refine (cloneE_spec b.exits hs2).mono ?_
  rintro vx h1 hox
  simp only [push_cast, simprocAttr, hox.one]
  intro c3 hc3
  have hoy := hox.upd (b := c3) (x := ⟨[.ro (wds b.pcs) b.pcs.length, ops b.ops, vx, .int .i64 b.last], 0⟩) (.inl hc3)
  have hh3 : h c3 = none := hox.sub.none hc3
  have hal := hox.alen
  simp only [push_cast, simprocAttr, hal]
  generalize hB : (⟨[.ro (wds b.pcs) b.pcs.length, ops b.ops, vx, .int .i64 b.last], 0⟩ : Blk) = B at hoy ⊢
  have hs0 : Sub h (Ab.upd h c3 B) := sub_upd hh3 (.refl _)
  have hg3 : Ab.upd h c3 B c3 = some B := upd_same _ _ _
  rw [← rowOf_self] at hoy
  generalize Ab.upd h c3 B = g at hoy hs0 hg3
  generalize Ab.upd h1 c3 B = H at hoy ⊢
  refine lpc.rel [3, 32, 33] (fun m ρ h' => ∃ (k : Nat) (vs : List AV) (h1 : Heap), m = b.exits.length - k ∧ k ≤ b.exits.length ∧ vs.length = k ∧ Own 5 g vx (rowOf b.exits (vs ++ (b.exits.drop k).map vlsm)) b.exits.length h1 ∧ Rows 2 h1 vs ((b.exits.take k).map mp) h' ∧
    ρ = [(3, .ptr c3 0), (32, .int .i64 (b.exits.length : Int)), (33, .int .i64 (k : Int))]) ⟨_, 0, [], H, rfl, by omega, rfl, hoy, .nil, rfl⟩ ?_
  rintro m _ h2 ⟨k, vs, h1, rfl, hk, hvl, ho, hr, rfl⟩
  have hc := hr.sub c3 _ (ho.get hg3)
  rw [← hB] at hc
  simp only [push_cast, simprocAttr, hc]
  refine ⟨fun hk2 => ?_, fun hk2 => ?_⟩
  · obtain ⟨br, pre, cap, sp, hv, e2, e3, e4⟩ := own_lie ho (by omega)
    subst hv
    have hbr := hr.sub br _ e2
    have hlw : (vs ++ (b.exits.drop k).map vlsm).length = b.exits.length := by simp; omega
    have hget : (pre ++ rowOf b.exits (vs ++ (b.exits.drop k).map vlsm))[pre.length + k * 5 + 4]? = some (vls (b.exits.getD k IEx.zero).map) := by
      rw [Nat.add_assoc, List.getElem?_append_right (by omega), Nat.add_sub_cancel_left, rowOf_get _ _ _ _ hlw hk2 (by omega)]
      have : (vs ++ (b.exits.drop k).map vlsm).getD k .nils = vls (b.exits.getD k IEx.zero).map := by
        rw [List.getD_eq_getElem?_getD, List.getElem?_append_right (by omega), hvl]
        simp [hk2, vlsm]
      rw [this]; rfl
    simp only [push_cast, simprocAttr, hc, hbr, hk2, hget]
    have hml := getD_map (n := k) hs3
    have htk : (b.exits.take (k + 1)).map mp = (b.exits.take k).map mp ++ [mp (b.exits.getD k IEx.zero)] := by
      rw [List.take_add_one, List.map_append]; simp [hk2]
    have hws : ∀ r, (vs ++ (b.exits.drop k).map vlsm).set k r = (vs ++ [r]) ++ (b.exits.drop (k + 1)).map vlsm := by
      intro r
      rw [List.set_append_right _ _ (by omega), List.drop_eq_getElem_cons hk2, hvl, Nat.sub_self, List.map_cons, List.set_cons_zero, List.append_assoc]
      rfl
    have hro := fun r => rowOf_set b.exits _ k r hlw hk2
    have hlr := rowOf_len b.exits _ hlw
    generalize b.exits.getD k IEx.zero = e at hml htk hget ⊢
    refine (cloneV_spec e.map hml).mono ?_
    rintro r h3 hor
    have hc' := hor.sub c3 _ hc
    have hbr' := hor.sub br _ hbr
    have hset : (pre ++ rowOf b.exits (vs ++ (b.exits.drop k).map vlsm)).set (pre.length + k * 5 + 4) r = pre ++ rowOf b.exits ((vs ++ [r]) ++ (b.exits.drop (k + 1)).map vlsm) := by
      rw [Nat.add_assoc, List.set_append_right _ _ (by omega), Nat.add_sub_cancel_left, hro, hws]
    have hll : (pre ++ rowOf b.exits (vs ++ (b.exits.drop k).map vlsm)).length = pre.length + b.exits.length * 5 := by
      rw [List.length_append, hlr]
    simp (disch := omega) only [push_cast, simprocAttr, wrap_i64, toNat_ofInt64, Nat.min_eq_left, Int.toNat_of_nonneg, hc', hbr', hk2, hget, hor.one, hset, hll]
    refine ⟨by omega, _, _, by omega, .refl _, k + 1, vs ++ [r], _, rfl, by omega, by simp [hvl], e4 _ ?_, ?_, rfl⟩
    · rw [hlr, rowOf_len _ _ (by simp; omega)]
    · rw [htk]
      exact (Rows.snoc hr hor).upd (.inr ⟨_, e2⟩)
  · obtain rfl : k = b.exits.length := by omega
    rw [List.take_length] at hr
    subst hB
    exact ⟨c3, g, vx, rfl, hs0, hg3, h1, _, by rw [List.drop_length, List.map_nil, List.append_nil] at ho; exact ho, hr⟩
end Go.Ab
