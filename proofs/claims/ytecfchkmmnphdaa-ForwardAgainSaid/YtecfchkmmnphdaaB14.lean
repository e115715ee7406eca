/- Contracts: the reader of exits. -/
import Derived.Test.YtecfchkmmnphdaaB13
set_option linter.unusedSimpArgs false
set_option linter.unusedVariables false
set_option maxRecDepth 10000
namespace Go.Ab
open Go.Proofs
variable {G : Glo} {h : Heap}
def exOK (to : List Int) (e : IEx) : Prop := (e.to = -1 ∨ 0 ≤ e.to ∧ e.to < to.length) ∧ ∀ v ∈ e.map, 0 ≤ v.val ∧ v.val < to.length
/-- The first k values told anew. -/
def renK (to : List Int) (m : List IVl) (k : Nat) : List IVl := (m.take k).map (renV to) ++ m.drop k
theorem renK_len (to m k) : (renK to m k).length = m.length := by simp [renK]; omega
theorem renK_get {to : List Int} {m : List IVl} {k : Nat} (hk : k < m.length) : (renK to m k).getD k IVl.zero = m.getD k IVl.zero := by
  have h1 : ((m.take k).map (renV to)).length = k := by simp; omega
  rw [renK, List.getD_eq_getElem?_getD, List.getElem?_append_right (by omega), h1, Nat.sub_self]
  simp [hk]
theorem renK_set {to : List Int} {m : List IVl} {k : Nat} (hk : k < m.length) : (renK to m k).set k (renV to (m.getD k IVl.zero)) = renK to m (k + 1) := by
  have h1 : ((m.take k).map (renV to)).length = k := by simp; omega
  rw [renK, renK, List.set_append_right _ _ (by omega), h1, Nat.sub_self, List.drop_eq_getElem_cons hk, List.set_cons_zero, List.take_add_one, List.map_append]
  simp [hk]
theorem vls_set1 (m : List IVl) : ∀ (k : Nat) (x : Int), k < m.length → (m.flatMap IVl.cells).set (k * 2 + 1) (.int .i64 x) = (m.set k { m.getD k IVl.zero with val := x }).flatMap IVl.cells := by
  induction m with
  | nil => intro k x h; simp at h
  | cons v m ih =>
    intro k x hk
    cases k with
    | zero => rfl
    | succ k =>
      simp only [List.flatMap_cons, List.set_cons_succ]
      rw [List.set_append_right _ _ (by rw [IVl.len]; omega)]
      have : (k + 1) * 2 + 1 - v.cells.length = k * 2 + 1 := by rw [IVl.len]; omega
      rw [this, ih k x (by simpa using hk)]
      rfl
theorem exit2_loop {h1 : Heap} {b5 br k : Nat} {p vo last st vx : AV} {pre ws : List AV} {sp : Nat} {es : List IEx} {e : IEx} {to : List Int} {Q : Exit → Env → Heap → Prop} {mss : List (List AV × Nat)} (hb5 : h1 b5 = some ⟨[p, vo, vx, last, .ro (to.map (.int .i64)) to.length, st], 0⟩)
    (hbr : h1 br = some ⟨pre ++ rowOf es ws, sp⟩) (g4 : (pre ++ rowOf es ws)[pre.length + k * 5 + 4]? = some (ws.getD k .nils)) (hwl : k < ws.length) (hml : k < mss.length)
    (r : Rows 2 h1 ws (mss.set k (mp e)) h) (hok : ∀ v ∈ e.map, 0 ≤ v.val ∧ v.val < to.length) (hl : e.map.length ≤ 1000000000000)
    (hq : ∀ ρ h', Rows 2 h1 ws (mss.set k (mp { e with map := e.map.map (renV to) })) h' → Q (.exit 0) ρ h') :
    lpc Try.prog G Try.f63.ntmps C63_14 Q [(0, .ptr b5 0), (1, .ptr br (pre.length + k * 5)), (27, .int .i64 (e.map.length : Int)), (28, .int .i64 0)] h := by
  refine lpc.rel [0, 1, 27, 28] (fun m ρ h' => ∃ i : Nat, m = e.map.length - i ∧ i ≤ e.map.length ∧ Rows 2 h1 ws (mss.set k (mp { e with map := renK to e.map i })) h' ∧
    ρ = [(0, .ptr b5 0), (1, .ptr br (pre.length + k * 5)), (27, .int .i64 (e.map.length : Int)), (28, .int .i64 (i : Int))]) ⟨_, 0, rfl, by omega, r, rfl⟩ ?_
  rintro m _ h2 ⟨i, rfl, hi, hr, rfl⟩
  have hbr' := hr.sub br _ hbr
  have hb5' := hr.sub b5 _ hb5
  by_cases hi2 : i < e.map.length
  · have hren : (mp { e with map := renK to e.map i }).2 = e.map.length := renK_len _ _ _
    obtain ⟨bm, pm, cm, sm, f1, f2, f3, f4⟩ := hr.lie k (ws.getD k .nils) ((renK to e.map i).flatMap IVl.cells) (renK to e.map i).length (by simp [hwl]) (by simp [hml, mp]) (by rw [renK_len]; omega)
    have hgi := renK_get (to := to) hi2
    have hgs := renK_set (to := to) hi2
    have hok2 : 0 ≤ (e.map.getD i IVl.zero).val ∧ (e.map.getD i IVl.zero).val < to.length := hok _ (by rw [List.getD_eq_getElem?_getD, List.getElem?_eq_getElem hi2]; simp)
    have hvs := vls_set1 (renK to e.map i) i
    rw [renK_len, hgi] at hvs
    have hrl := renK_len to e.map i
    generalize e.map.getD i IVl.zero = v at hgi hgs hok2 hvs
    obtain ⟨q1, q2⟩ := hok2
    have q3 : v.val.toNat < to.length := by omega
    have hpm : (pm ++ (renK to e.map i).flatMap IVl.cells)[pm.length + i * 2 + 1]? = some (.int .i64 v.val) := by
      rw [Nat.add_assoc, List.getElem?_append_right (by omega), Nat.add_sub_cancel_left, vls_1, hrl, if_pos hi2, hgi]
    rw [f1] at g4
    have f4' := f4 (((renK to e.map i).flatMap IVl.cells).set (i * 2 + 1) (.int .i64 (to.getD v.val.toNat 0))) (by simp)
    have hset : (pm ++ (renK to e.map i).flatMap IVl.cells).set (pm.length + i * 2 + 1) (.int .i64 (to.getD v.val.toNat 0)) = pm ++ (((renK to e.map i).flatMap IVl.cells).set (i * 2 + 1) (.int .i64 (to.getD v.val.toNat 0))) := by
      rw [Nat.add_assoc, List.set_append_right _ _ (by omega), Nat.add_sub_cancel_left]
    have hlp : (pm ++ (renK to e.map i).flatMap IVl.cells).length = pm.length + e.map.length * 2 := by
      rw [List.length_append, flat_len IVl.cells 2 _ (fun x _ => IVl.len x), hrl]
    simp (disch := omega) only [push_cast, simprocAttr, wrap_i64, toNat_ofInt64, Nat.min_eq_left, Int.toNat_of_nonneg, hb5', hbr', g4, f2, hrl, hpm, q1, q2, q3, hset, hlp, hi2]
    refine ⟨by omega, _, _, by omega, .refl _, i + 1, rfl, by omega, ?_, rfl⟩
    have hvs' := hvs (to.getD v.val.toNat 0) hi2
    have hx : ({ v with val := to.getD v.val.toNat 0 } : IVl) = renV to v := rfl
    rw [hx, hgs] at hvs'
    rw [List.set_set, hvs'] at f4'
    rw [hvs']
    have hm : mp { e with map := renK to e.map (i + 1) } = ((renK to e.map (i + 1)).flatMap IVl.cells, (renK to e.map i).length) := by rw [mp, renK_len, renK_len]
    rw [hm]
    exact f4'
  · obtain rfl : i = e.map.length := by omega
    simp only [push_cast, simprocAttr, hi2]
    refine hq _ _ ?_
    have : renK to e.map e.map.length = e.map.map (renV to) := by simp [renK]
    rw [this] at hr
    exact hr
theorem rowOf_map (es : List IEx) : ∀ (ws : List AV) (k : Nat) (e : IEx) (m : List IVl), rowOf (es.set k { e with map := m }) ws = rowOf (es.set k e) ws := by
  induction es with
  | nil => intro ws k e m; rfl
  | cons a es ih =>
    intro ws k e m
    match ws with
    | [] => cases k <;> rfl
    | w :: ws =>
      cases k with
      | zero => rfl
      | succ k => simp only [List.set_cons_succ, rowOf, ih]
theorem set_self {α : Type} (l : List α) (k : Nat) (d : α) : l.set k (l.getD k d) = l := by
  apply List.ext_getElem
  · simp
  · intro i h1 h2
    rw [List.getElem_set]
    split
    · rename_i e; subst e; simp [h2]
    · rfl
theorem exit2_spec {g : Heap} {b5 br off n cap k : Nat} {p vo last : AV} {st : AV} {es : List IEx} {to : List Int} (hb : g b5 = some ⟨[p, vo, .sl br off n cap, last, .ro (to.map (.int .i64)) to.length, st], 0⟩)
    (hx : ExO g (.sl br off n cap) es h) (hn : n = es.length) (hk : k < es.length) (hok : exOK to (es.getD k IEx.zero)) (hl : (es.getD k IEx.zero).map.length ≤ 1000000000000) :
    Spec Try.prog G 63 [.ptr b5 0, .ptr br (off + k * 5)] h (fun _ h' => ExO g (.sl br off n cap) (es.set k (renE to (es.getD k IEx.zero))) h') := by
  subst hn
  obtain ⟨h1, ws, o, r⟩ := hx
  have hwl : ws.length = es.length := by have := r.len; simpa using this
  obtain ⟨br', pre, cap', sp, hv, e2, e3, e4⟩ := own_lie o (by omega)
  simp only [AV.sl.injEq] at hv
  obtain ⟨rfl, rfl, _, rfl⟩ := hv
  have hbr := r.sub br _ e2
  have hb5 := r.sub b5 _ (o.get hb)
  have g2 : (pre ++ rowOf es ws)[pre.length + k * 5 + 2]? = some (.int .i64 (es.getD k IEx.zero).to) := by
    rw [Nat.add_assoc, List.getElem?_append_right (by omega), Nat.add_sub_cancel_left, rowOf_get _ _ _ _ hwl hk (by omega)]; rfl
  have g4 : (pre ++ rowOf es ws)[pre.length + k * 5 + 4]? = some (ws.getD k .nils) := by
    rw [Nat.add_assoc, List.getElem?_append_right (by omega), Nat.add_sub_cancel_left, rowOf_get _ _ _ _ hwl hk (by omega)]; rfl
  have hlr := rowOf_len es ws hwl
  have hll : (pre ++ rowOf es ws).length = pre.length + es.length * 5 := by rw [List.length_append, hlr]
  have hal : alen (ws.getD k .nils) = some (es.getD k IEx.zero).map.length := by
    exact r.alen k _ (mp (es.getD k IEx.zero)).1 _ (by simp [hwl, hk]) (by simp [hk, mp])
  generalize hE : es.getD k IEx.zero = e at *
  obtain ⟨ok1, ok2⟩ := hok
  by_cases ht : e.to = -1
  · refine Spec.walk C63ok rfl ?_
    simp only [push_cast, simprocAttr, hb5, hbr, g2, g4, hal, ht]
    refine exit2_loop (o.get hb) e2 g4 (by omega) (by simp; omega) (mss := es.map mp) ?_ ok2 hl fun ρ h' hr => ?_
    · have : (es.map mp).set k (mp e) = es.map mp := by rw [← List.map_set, ← hE, set_self]
      rw [this]; exact r
    · simp only [push_cast, simprocAttr]
      have hre : renE to e = { e with map := e.map.map (renV to) } := by
        unfold renE; rw [if_pos ht]
        obtain ⟨e1, e2, e3, e4, e5⟩ := e
        simp only at ht
        subst ht
        rfl
      rw [hre]
      refine ⟨h1, ws, ?_, ?_⟩
      · rw [rowOf_map, ← hE, set_self, List.length_set]; exact o
      · rw [List.map_set]; exact hr
  · have q : 0 ≤ e.to ∧ e.to < to.length := by omega
    have q2 : e.to.toNat < to.length := by omega
    have hset : ∀ x, (pre ++ rowOf es ws).set (pre.length + k * 5 + 2) (.int .i64 x) = pre ++ rowOf (es.set k { e with to := x }) ws := by
      intro x
      rw [Nat.add_assoc, List.set_append_right _ _ (by omega), Nat.add_sub_cancel_left, rowOf_set2 _ _ _ _ hwl hk, hE]
    refine Spec.walk C63ok rfl ?_
    have hwl' : ws.length = (es.set k { e with to := to.getD e.to.toNat 0 }).length := by simp [hwl]
    have g4' : (pre ++ rowOf (es.set k { e with to := to.getD e.to.toNat 0 }) ws)[pre.length + k * 5 + 4]? = some (ws.getD k .nils) := by
      rw [Nat.add_assoc, List.getElem?_append_right (by omega), Nat.add_sub_cancel_left, rowOf_get _ _ _ _ hwl' (by simpa using hk) (by omega)]; rfl
    simp (disch := omega) only [push_cast, simprocAttr, wrap_i64, toNat_ofInt64, Nat.min_eq_left, Int.toNat_of_nonneg, hb5, hbr, g2, g4, g4', hal, ht, q.1, q.2, q2, hset, hll]
    refine ⟨by omega, ?_⟩
    have hne : ¬ b5 = br := fun e => by rw [← e, hb] at e3; cases e3
    refine exit2_loop (h1 := Ab.upd h1 br ⟨pre ++ rowOf (es.set k { e with to := to.getD e.to.toNat 0 }) ws, sp⟩) (e := { e with to := to.getD e.to.toNat 0 }) (by rw [upd_ne hne]; exact o.get hb) (upd_same _ _ _) g4' (by omega) (by simp; omega) (mss := es.map mp) ?_ ok2 hl fun ρ h' hr => ?_
    · have : (es.map mp).set k (mp { e with to := to.getD e.to.toNat 0 }) = es.map mp := by
        show (es.map mp).set k (mp e) = es.map mp
        rw [← List.map_set, ← hE, set_self]
      rw [this]; exact r.upd (.inr ⟨_, e2⟩)
    · simp only [push_cast, simprocAttr]
      have hre : renE to e = { ({ e with to := to.getD e.to.toNat 0 } : IEx) with map := e.map.map (renV to) } := by
        unfold renE; rw [if_neg ht]
      rw [hre]
      refine ⟨Ab.upd h1 br ⟨pre ++ rowOf (es.set k { e with to := to.getD e.to.toNat 0 }) ws, sp⟩, ws, ?_, ?_⟩
      · rw [rowOf_map _ _ _ { e with to := to.getD e.to.toNat 0 } (e.map.map (renV to)), List.length_set]
        exact e4 _ (by rw [rowOf_len _ _ hwl', hlr, List.length_set])
      · rw [List.map_set]; exact hr
end Go.Ab
