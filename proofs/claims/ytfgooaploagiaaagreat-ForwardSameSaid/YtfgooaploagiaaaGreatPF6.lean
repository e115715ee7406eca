/- Joined. -/
import Derived.Test.YtfgooaploagiaaaGreatPF5
set_option linter.unusedSimpArgs false
set_option linter.unusedVariables false
set_option maxRecDepth 10000
section
namespace Go.Ab
open Go.Proofs
variable {G : Glo} {h : Heap}
section
variable {g : Heap} {b5 c3 : Nat} {p vk vx : AV} {to kept : List Int} {l : List IOp} {es : List IEx} {last : Int}
theorem gvals_loop {h1 : Heap} {c' : Nat} {w : AV} {e : IEx} {n2 : Int} {v56 : AV} {n57 n58 : Int} {Q : Exit → Env → Heap → Prop} (hb5 : h1 b5 = some ⟨[.ptr c3 0, .ro (to.map (.int .i64)) to.length], 0⟩)
  (hc : h1 c' = some ⟨exC e w, 0⟩) (o : Own 2 h1 w (e.map.flatMap IVl.cells) e.map.length h) (hok : ∀ v ∈ e.map, 0 ≤ v.val ∧ v.val < to.length) (hl : e.map.length ≤ 1000000000000)
  (hq : ∀ ρ h', lk ρ 0 = .ptr b5 0 → lk ρ 2 = .int .i64 n2 → lk ρ 6 = .cp [vk] 0 → lk ρ 11 = .ptr c' 0 → lk ρ 56 = v56 → lk ρ 57 = .int .i64 n57 → lk ρ 58 = .int .i64 n58 → Own 2 h1 w ((e.map.map (renV to)).flatMap IVl.cells) e.map.length h' → Q .normal ρ h') :
  wpc Tryz.prog G Tryz.f106.ntmps C106_60 Q [(0, .ptr b5 0), (2, .int .i64 n2), (6, .cp [vk] 0), (11, .ptr c' 0), (56, v56), (57, .int .i64 n57), (58, .int .i64 n58)] h := by
 have hcx : exC e w = [.int .i64 e.done, .int .u32 (e.pc.toNat : Int), .int .i64 e.to, .int .i64 e.why, w] := rfl
 rw [hcx] at hc
 have hc' := o.get hc
 have hal := o.alen
 simp only [push_cast, simprocAttr, hc', hal]
 refine lpc.rel [0, 2, 6, 11, 56, 57, 58, 85, 86] (fun m ρ h' => ∃ i : Nat, m = e.map.length - i ∧ i ≤ e.map.length ∧ Own 2 h1 w ((renK to e.map i).flatMap IVl.cells) e.map.length h' ∧
  ρ = [(0, .ptr b5 0), (2, .int .i64 n2), (6, .cp [vk] 0), (11, .ptr c' 0), (56, v56), (57, .int .i64 n57), (58, .int .i64 n58), (85, .int .i64 (e.map.length : Int)), (86, .int .i64 (i : Int))]) ⟨_, 0, rfl, by omega, o, rfl⟩ ?_
 rintro m _ h2 ⟨i, rfl, hi, ho, rfl⟩
 have hb5' := ho.get hb5
 have hc2 := ho.get hc
 by_cases hi2 : i < e.map.length
 ·obtain ⟨bm, pm, cm, sm, rfl, f2, f3, f4⟩ := own_lie ho (by omega)
  have hgi := renK_get (to := to) hi2
  have hgs := renK_set (to := to) hi2
  have hok2 : 0 ≤ (e.map.getD i IVl.zero).val ∧ (e.map.getD i IVl.zero).val < to.length := hok _ (by rw [List.getD_eq_getElem?_getD, List.getElem?_eq_getElem hi2]; simp)
  have hvs := vls_set1 (renK to e.map i) i
  rw [renK_len, hgi] at hvs
  have hrl := renK_len to e.map i
  generalize e.map.getD i IVl.zero = v at hgi hgs hok2 hvs
  obtain ⟨q1, q2⟩ := hok2
  have q3 : v.val.toNat < to.length := by omega
  have hpm : (pm ++ (renK to e.map i).flatMap IVl.cells)[pm.length + i * 2 + 1]? = some (.int .i64 v.val) := by
   rw [Nat.add_assoc, List.getElem?_append_right (by omega), Nat.add_sub_cancel_left, vls_1, hrl, if_pos hi2, hgi]
  have hset : (pm ++ (renK to e.map i).flatMap IVl.cells).set (pm.length + i * 2 + 1) (.int .i64 (to.getD v.val.toNat 0)) = pm ++ (((renK to e.map i).flatMap IVl.cells).set (i * 2 + 1) (.int .i64 (to.getD v.val.toNat 0))) := by
   rw [Nat.add_assoc, List.set_append_right _ _ (by omega), Nat.add_sub_cancel_left]
  have hlp : (pm ++ (renK to e.map i).flatMap IVl.cells).length = pm.length + e.map.length * 2 := by
   rw [List.length_append, flat_len IVl.cells 2 _ (fun x _ => IVl.len x), hrl]
  have hvs' := hvs (to.getD v.val.toNat 0) hi2
  have hx : ({ v with val := to.getD v.val.toNat 0 } : IVl) = renV to v := rfl
  rw [hx, hgs] at hvs'
  simp (disch := omega) only [push_cast, simprocAttr, wrap_i64, toNat_ofInt64, Nat.min_eq_left, Int.toNat_of_nonneg, hb5', hc2, f2, hrl, hpm, q1, q2, q3, hset, hlp, hi2]
  refine ⟨by omega, _, _, by omega, .refl _, i + 1, rfl, by omega, ?_, rfl⟩
  rw [hvs']
  exact f4 _ (by rw [flat_len IVl.cells 2 _ (fun x _ => IVl.len x), flat_len IVl.cells 2 _ (fun x _ => IVl.len x), renK_len, renK_len])
 ·obtain rfl : i = e.map.length := by omega
  simp only [push_cast, simprocAttr, hi2]
  have : renK to e.map e.map.length = e.map.map (renV to) := by simp [renK]
  rw [this] at ho
  exact hq _ _ rfl rfl rfl rfl rfl rfl rfl ho
theorem gapp_spec {e : IEx} {w v56 : AV} {c' : Nat} {h0 : Heap} {n2 n57 n58 : Int} {Q : Exit → Env → Heap → Prop} (hr : GX g b5 c3 p to l vk kept vx es 0 h0) (ho : Own 2 h0 w (e.map.flatMap IVl.cells) e.map.length h) (hg : g c' = some ⟨exC e w, 0⟩) (n5 : c' ≠ b5) (n3 : c' ≠ c3) (hl : es.length + 1 ≤ 1000000000000)
  (hq : ∀ ρ v5 h', lk ρ 0 = .ptr b5 0 → lk ρ 2 = .int .i64 n2 → lk ρ 6 = .cp [vk] 0 → lk ρ 56 = v56 → lk ρ 57 = .int .i64 n57 → lk ρ 58 = .int .i64 n58 → GX g b5 c3 p to l vk kept v5 (es ++ [e]) 0 h' → Q .normal ρ h') :
  wpc Tryz.prog G Tryz.f106.ntmps C106_65 Q [(0, .ptr b5 0), (2, .int .i64 n2), (6, .cp [vk] 0), (11, .ptr c' 0), (56, v56), (57, .int .i64 n57), (58, .int .i64 n58)] h := by
 have hcx : exC e w = [.int .i64 e.done, .int .u32 (e.pc.toNat : Int), .int .i64 e.to, .int .i64 e.why, w] := rfl
 have hc := ho.get (hr.get hg n5 n3)
 obtain ⟨vo, g1, cs, hb5, hc3, o1, app⟩ := hr.app ho
 rw [hcx] at hc
 simp only [push_cast, simprocAttr, hb5, hc3, hc]
 refine Own.app o1 (m := 1) rfl (by omega) (by omega) fun v5 h5 o5 => ?_
 obtain ⟨k5, k3, kg, hr5⟩ := app v5 h5 (by rw [hcx]; exact o5)
 have hone := o5.one
 simp only [push_cast, simprocAttr, k5, k3, hone]
 exact hq _ _ _ rfl rfl rfl rfl rfl rfl hr5
theorem gexit_spec {E : List IEx} {k : Nat} {n2 : Int} {Q : Exit → Env → Heap → Prop} (hr : GX g b5 c3 p to l vk kept vx es 0 h) (hN : kept.length = E.length) (hE : E.length ≤ 1000000000000) (hes : es.length < E.length) (hk : k < E.length) (hm : (E.getD k IEx.zero).map.length ≤ 1000000000000)
  (hok : kept.getD k 0 ≠ 0 → exOK to (E.getD k IEx.zero))
  (hq : ∀ ρ g1 vx' h', lk ρ 0 = .ptr b5 0 → lk ρ 2 = .int .i64 n2 → lk ρ 6 = .cp [vk] 0 → lk ρ 56 = exs E → lk ρ 57 = .int .i64 E.length → lk ρ 58 = .int .i64 k → Sub g g1 → g1 b5 = g b5 → g1 c3 = g c3 →
   GX g1 b5 c3 p to l vk (if kept.getD k 0 = 0 then kept else kept.set k (es.length : Int)) vx' (if kept.getD k 0 = 0 then es else es ++ [renE to (E.getD k IEx.zero)]) 0 h' → Q .normal ρ h') :
  wpc Tryz.prog G Tryz.f106.ntmps C106_72 Q [(0, .ptr b5 0), (2, .int .i64 n2), (6, .cp [vk] 0), (56, exs E), (57, .int .i64 (E.length : Int)), (58, .int .i64 (k : Int))] h := by
 generalize hO : E.getD k IEx.zero = e at *
 have hG := fun h1 h c' w Q a1 a2 a3 a4 => gvals_loop (G := G) (b5 := b5) (c3 := c3) (vk := vk) (to := to) (h1 := h1) (h := h) (c' := c') (w := w) (e := e) (n2 := n2) (v56 := exs E) (n57 := (E.length : Int)) (n58 := (k : Int)) (Q := Q) a1 a2 a3 a4 hm
 have hA := fun g kept e w c' h0 h Q a1 a2 a3 a4 a5 => gapp_spec (G := G) (g := g) (b5 := b5) (c3 := c3) (p := p) (vk := vk) (vx := vx) (to := to) (kept := kept) (l := l) (es := es) (e := e) (w := w) (v56 := exs E) (c' := c') (h0 := h0) (h := h) (n2 := n2) (n57 := (E.length : Int)) (n58 := (k : Int)) (Q := Q) a1 a2 a3 a4 a5 (by omega)
 show wpc _ _ _ (.block 6 (.seq [0, 2, 6, 10, 11, 56, 57, 58] C106_41 (.seq [0, 2, 6, 10, 11, 56, 57, 58] C106_44 (.seq [0, 2, 6, 11, 56, 57, 58] C106_45 (.seq [0, 2, 6, 11, 56, 57, 58] C106_46 (.seq [0, 2, 6, 11, 56, 57, 58] C106_60 (.seq [0, 2, 6, 11, 56, 57, 58] C106_64 C106_65))))))) _ _ _
 generalize C106_60 = Z at hG ⊢
 generalize C106_65 = Y at hA ⊢
 simp only [push_cast, simprocAttr, hk, hO]
 intro c' hc'
 obtain ⟨hu, n5, n3⟩ := hr.upd (x := ⟨e.cells, 0⟩) (.inl hc')
 have hcc := upd_same h c' ⟨e.cells, 0⟩
 have hgc := upd_same g c' ⟨e.cells, 0⟩
 have hg0 : g c' = none := by
  obtain ⟨_, vo, h1, h2, o1, o2, x⟩ := hr
  have := o1.sub.none (o2.sub.none (x.sub.none hc'))
  rwa [upd_ne n5, upd_ne n3] at this
 obtain ⟨bk, prk, capk, spk, rfl, hbk, k5, k3, put⟩ := hu.mark (by omega)
 obtain ⟨vo, hb5, hc3, hal, hax⟩ := hu.at
 have hkk : k < kept.length := by omega
 have hget : (prk ++ kept.map (AV.int .i64))[prk.length + k]? = some (.int .i64 (kept.getD k 0)) := by rw [ints_getP, if_pos hkk]
 by_cases ck : kept.getD k 0 = 0
 ·rw [ck] at hget
  simp (disch := omega) only [push_cast, simprocAttr, wrap_i64, toNat_ofInt64, Nat.min_eq_left, Int.toNat_of_nonneg, hbk, hkk, hget]
  refine hq _ (Ab.upd g c' ⟨e.cells, 0⟩) vx _ rfl rfl rfl rfl rfl rfl (sub_upd hg0 (.refl _)) (upd_ne (Ne.symm n5)) (upd_ne (Ne.symm n3)) ?_
  rw [if_pos ck, if_pos ck]
  exact hu
 ·have hok := hok ck
  rw [if_neg ck, if_neg ck] at hq
  have hset : (prk ++ kept.map (AV.int .i64)).set (prk.length + k) (.int .i64 (es.length : Int)) = prk ++ (kept.set k (es.length : Int)).map (AV.int .i64) := by
   rw [List.set_append_right _ _ (by omega), Nat.add_sub_cancel_left, List.map_set]
  have hlen : (prk ++ kept.map (AV.int .i64)).length = prk.length + kept.length := by simp
  have hr2 := put (kept.set k (es.length : Int)) (by simp)
  have c2 := hr2.get hgc n5 n3
  have e4 : e.cells[4]? = some (vls e.map) := rfl
  have es4 : ∀ w, e.cells.set 4 w = exC e w := fun _ => rfl
  simp (disch := omega) only [push_cast, simprocAttr, wrap_i64, toNat_ofInt64, Nat.min_eq_left, Int.toNat_of_nonneg, hbk, hkk, hget, ck, hb5, hc3, hax, hset, hlen, c2, e4]
  refine ⟨by omega, (cloneV_spec e.map hm).mono ?_⟩
  rintro w h3 o3
  have c3' := o3.get c2
  have hone := o3.one
  simp only [push_cast, simprocAttr, c3', es4, hone]
  generalize hH2 : Ab.upd (Ab.upd h c' ⟨e.cells, 0⟩) bk ⟨prk ++ (kept.set k (es.length : Int)).map (AV.int .i64), spk⟩ = H2 at *
  obtain ⟨hr3, _, _⟩ := hr2.upd (b := c') (x := ⟨exC e w, 0⟩) (.inr ⟨⟨_, hgc⟩, n5, n3⟩)
  have o4 := o3.upd (b := c') (x := ⟨exC e w, 0⟩) (.inr ⟨_, c2⟩)
  rw [upd_upd] at hr3
  obtain ⟨_, hb53, _, _, _⟩ := hr3.at
  refine hG (Ab.upd H2 c' ⟨exC e w, 0⟩) _ c' w _ hb53 (upd_same _ _ _) o4 hok.2 fun ρ h4 e0 e2 e6 e11 e56 e57 e58 o5 => ?_
  have hc4 := o5.get (upd_same H2 c' ⟨exC e w, 0⟩)
  have hb54 := o5.get hb53
  have x2 : (exC e w)[2]? = some (.int .i64 e.to) := rfl
  have xl : (exC e w).length = 5 := rfl
  by_cases ht : e.to = -1
  ·simp only [push_cast, simprocAttr, e0, e2, e6, e11, e56, e57, e58, hc4, x2, ht]
   refine hA _ _ { e with map := e.map.map (renV to) } w c' _ _ _ hr3 (by simpa using o5) (upd_same _ _ _) n5 n3 fun ρ v5 h5 f0 f2 f6 f56 f57 f58 hr5 => ?_
   refine hq _ (Ab.upd g c' ⟨exC e w, 0⟩) v5 _ f0 f2 f6 f56 f57 f58 (sub_upd hg0 (.refl _)) (upd_ne (Ne.symm n5)) (upd_ne (Ne.symm n3)) ?_
   have hre : renE to e = { e with map := e.map.map (renV to) } := by
    unfold renE; rw [if_pos ht]
    obtain ⟨e1, e2, e3, e4, e5⟩ := e
    simp only at ht
    subst ht
    rfl
   rw [hre]
   exact hr5
  ·have q : 0 ≤ e.to ∧ e.to < to.length := by have := hok.1; omega
   obtain ⟨q0, q1⟩ := q
   have q2 : e.to.toNat < to.length := by omega
   have xs : ∀ x : Int, (exC e w).set 2 (.int .i64 x) = exC { e with to := x } w := fun _ => rfl
   obtain ⟨hr4, _, _⟩ := hr2.upd (b := c') (x := ⟨exC { e with to := to.getD e.to.toNat 0 } w, 0⟩) (.inr ⟨⟨_, hgc⟩, n5, n3⟩)
   rw [upd_upd] at hr4
   have o6 := o5.upd (b := c') (x := ⟨exC { e with to := to.getD e.to.toNat 0 } w, 0⟩) (.inr ⟨_, upd_same _ _ _⟩)
   rw [upd_upd] at o6
   simp (disch := omega) only [push_cast, simprocAttr, wrap_i64, toNat_ofInt64, Nat.min_eq_left, Int.toNat_of_nonneg, e0, e2, e6, e11, e56, e57, e58, hc4, hb54, x2, xl, ht, q0, q1, q2, xs]
   refine hA _ _ { e with to := to.getD e.to.toNat 0, map := e.map.map (renV to) } w c' _ _ _ hr4 (by simpa using o6) (upd_same _ _ _) n5 n3 fun ρ v5 h5 f0 f2 f6 f56 f57 f58 hr5 => ?_
   refine hq _ (Ab.upd g c' ⟨exC { e with to := to.getD e.to.toNat 0 } w, 0⟩) v5 _ f0 f2 f6 f56 f57 f58 (sub_upd hg0 (.refl _)) (upd_ne (Ne.symm n5)) (upd_ne (Ne.symm n3)) ?_
   have hre : renE to e = { e with to := to.getD e.to.toNat 0, map := e.map.map (renV to) } := by
    unfold renE; rw [if_neg ht]
   rw [hre]
   exact hr5
end
end Go.Ab
end
section
namespace Go.Ab
open Go.Proofs
variable {G : Glo} {h : Heap}
def kw (nm : Nat → Bool) (n k : Nat) : List Int := (List.range n).map fun j => if nm j then (if j < k then (plN nm j : Int) else 1) else 0
theorem kw_len (nm : Nat → Bool) (n k : Nat) : (kw nm n k).length = n := by simp [kw]
theorem kw_zero (nm : Nat → Bool) (n : Nat) : kw nm n 0 = kv nm n := by simp [kw, kv]
theorem kw_get (nm : Nat → Bool) {n k j : Nat} (h : j < n) : (kw nm n k).getD j 0 = if nm j then (if j < k then (plN nm j : Int) else 1) else 0 := by simp [kw, h]
theorem kw_set (nm : Nat → Bool) {n k : Nat} (hk : k < n) (hm : nm k = true) : (kw nm n k).set k (plN nm k : Int) = kw nm n (k + 1) := by
 apply List.ext_getElem
 ·simp [kw]
 ·intro i h1 h2
  have hi : i < n := by simpa [kw] using h2
  rw [List.getElem_set]
  simp only [kw, List.getElem_map, List.getElem_range]
  by_cases e : k = i
  ·subst e; rw [if_pos rfl, if_pos hm, if_pos (by omega)]
  ·rw [if_neg e]
   by_cases hn : nm i = true
   ·rw [if_pos hn, if_pos hn]
    by_cases hik : i < k
    ·rw [if_pos hik, if_pos (by omega)]
    ·rw [if_neg hik, if_neg (by omega)]
   ·rw [if_neg hn, if_neg hn]
theorem kw_skip (nm : Nat → Bool) {n k : Nat} (hm : nm k = false) : kw nm n k = kw nm n (k + 1) := by
 unfold kw
 refine List.map_congr_left fun i hi => ?_
 by_cases hn : nm i = true
 ·have : i ≠ k := fun e => by rw [e, hm] at hn; cases hn
  rw [if_pos hn, if_pos hn]
  by_cases hik : i < k
  ·rw [if_pos hik, if_pos (by omega)]
  ·rw [if_neg hik, if_neg (by omega)]
 ·rw [if_neg hn, if_neg hn]
def keptT (nm : Nat → Bool) (to : List Int) (E : List IEx) (k : Nat) : List IEx := ((List.range k).filter nm).map fun n => renE to (E.getD n IEx.zero)
theorem keptT_len (nm to E k) : (keptT nm to E k).length = plN nm k := by simp [keptT, plN]
theorem keptT_all (nm to E) : keptT nm to E E.length = (keptE nm E).map (renE to) := by simp [keptT, keptE]
theorem keptT_succ (nm to E k) : keptT nm to E (k + 1) = if nm k then keptT nm to E k ++ [renE to (E.getD k IEx.zero)] else keptT nm to E k := by
 unfold keptT
 rw [List.range_succ, List.filter_append, List.map_append]
 cases hm : nm k <;> simp [hm]
theorem plN_le (nm : Nat → Bool) (k : Nat) : plN nm k ≤ k := by
 unfold plN
 exact Nat.le_trans (List.length_filter_le _ _) (by simp)
section
variable {g : Heap} {b5 c3 : Nat} {p vo : AV} {to : List Int} {l : List IOp} {last : Int}
theorem gexits_spec (b : IBk) (hw : b.wf) (hn : b5 ≠ c3) (ho : Own 6 (Ab.upd (Ab.upd g c3 ⟨[p, vo, .nils, .int .i64 0], 0⟩) b5 ⟨[.ptr c3 0, .ro (to.map (.int .i64)) to.length], 0⟩) vo (l.flatMap IOp.cells) l.length h) (hl : l.length ≤ 1000000000000)
  (hlast : 0 ≤ last ∧ last < b.exits.length)
  (hx : ∀ j : Nat, j < l.length → (l.getD j IOp.zero).code ≤ 6 ∧ (4 ≤ (l.getD j IOp.zero).code → 0 ≤ (l.getD j IOp.zero).x ∧ (l.getD j IOp.zero).x < b.exits.length) ∧ ((l.getD j IOp.zero).code = 5 → 0 ≤ (l.getD j IOp.zero).y ∧ (l.getD j IOp.zero).y < b.exits.length))
  (hok : ∀ n, n < b.exits.length → namedX l last n = true → exOK to (b.exits.getD n IEx.zero)) :
  Spec Tryz.prog G 106 [.ptr b5 0, bkP b, .int .i64 last] h (fun _ h' => ∃ g1 vk kept vx, Sub g g1 ∧ g1 b5 = g b5 ∧ g1 c3 = g c3 ∧
   GX g1 b5 c3 p to (l.map (reX (plN (namedX l last)))) vk kept vx ((keptE (namedX l last) b.exits).map (renE to)) (plN (namedX l last) last.toNat) h') := by
 obtain ⟨hs1, hs2, hs3⟩ := hw.hs
 obtain ⟨hl0, hl1⟩ := hlast
 have hM := fun vk Q h a1 a5 => gmarks_spec (G := G) (g := g) (b5 := b5) (c3 := c3) (p := p) (vk := vk) (to := to) (l := l) (vb := bkP b) (N := b.exits.length) (last0 := last) (Q := Q) (h := h) a1 hs2 hl hx a5
 have hE := fun g1 vk vx es kept k Q h a1 a2 a3 a4 a5 a6 a7 => gexit_spec (G := G) (g := g1) (b5 := b5) (c3 := c3) (p := p) (vk := vk) (vx := vx) (to := to) (kept := kept) (l := l) (es := es) (E := b.exits) (k := k) (n2 := last) (Q := Q) (h := h) a1 a2 hs2 a3 a4 a5 a6 a7
 have hO := fun g1 vk vx es kept lst Q h a1 a2 a3 a4 => gops_spec (G := G) (g := g1) (b5 := b5) (c3 := c3) (p := p) (vk := vk) (vx := vx) (to := to) (kept := kept) (es := es) (last := lst) (pl := plN (namedX l last)) (l0 := l) (Q := Q) (h := h) a1 hl a2 a3 a4
 refine Spec.walk C106ok rfl ?_
 show wpc _ _ _ (.seq [0, 1, 2, 6] C106_0 (.fz 6 (.seq [0, 1, 2, 6, 7] C106_1 (.seq [0, 1, 2, 6, 7] C106_2 (.seq [0, 1, 2, 6] C106_37 (.seq [0, 2, 6] (.seq [0, 2, 6, 56, 57, 58] C106_38 (.block 5 (.loop (.seq [0, 2, 6, 56, 57, 58, 59] C106_39 (.seq [0, 2, 6, 56, 57, 58] C106_40 (.seq [0, 2, 6, 56, 57, 58] C106_72 C106_73)))))) (.seq [0, 6] C106_80 C106_116))))))) _ _ _
 generalize C106_37 = X at hM ⊢
 generalize C106_72 = Y at hE ⊢
 generalize C106_116 = Z at hO ⊢
 simp only [push_cast, simprocAttr]
 refine ⟨by omega, by omega, by omega, fun bk hbk b2 hb2 => ?_⟩
 rw [era_none hb2]
 refine ⟨⟨_, C135ok.hf, rfl, rfl⟩, ?_⟩
 generalize ((b.exits.length : Int) - (b.exits.length : Int)).toNat = sp
 have hr1 : GX g b5 c3 p to l (.sl bk 0 b.exits.length b.exits.length) (kv (fun _ => false) b.exits.length) .nils [] 0 (Ab.upd h bk ⟨List.replicate b.exits.length (.int .i64 0), sp⟩) := by
  refine ⟨hn, vo, h, _, ho, ?_, ⟨_, [], .nil, .nil⟩⟩
  have := Own.row (sz := 1) (g := h) bk b.exits.length b.exits.length [] (List.replicate b.exits.length (.int .i64 0)) sp hbk (by simp) (by omega)
  rw [kv_len, ← kv_none, List.map_replicate]
  exact this
 generalize AV.sl bk 0 b.exits.length b.exits.length = vk at *
 refine (gmark_spec hr1 (x := last) (by rw [kv_len]; omega)).mono ?_
 rintro _ h3 ⟨_, hr3⟩
 rw [kv_set (nm' := namedX [] last) (fun n _ => by unfold namedX; rw [Bool.eq_iff_iff]; simp; omega)] at hr3
 simp only [push_cast, simprocAttr]
 refine hM vk _ h3 hr3 fun ρ h4 e0 e1 e2 e6 hr4 => ?_
 simp only [push_cast, simprocAttr, e0, e1, e2, e6]
 generalize hnm : namedX l last = nm at *
 refine lpc.rel [0, 2, 6, 56, 57, 58] (fun m ρ h' => ∃ (i : Nat) (g1 : Heap) (vx : AV), m = b.exits.length - i ∧ i ≤ b.exits.length ∧ Sub g g1 ∧ g1 b5 = g b5 ∧ g1 c3 = g c3 ∧ GX g1 b5 c3 p to l vk (kw nm b.exits.length i) vx (keptT nm to b.exits i) 0 h' ∧
  ρ = [(0, .ptr b5 0), (2, .int .i64 last), (6, .cp [vk] 0), (56, exs b.exits), (57, .int .i64 (b.exits.length : Int)), (58, .int .i64 (i : Int))]) ⟨_, 0, g, .nils, rfl, by omega, .refl _, rfl, rfl, by rw [kw_zero]; exact hr4, rfl⟩ ?_
 rintro m _ h5 ⟨i, g1, vx, rfl, hi, hs, h5e, h3e, hr5, rfl⟩
 have hkl := kw_len nm b.exits.length i
 have htl := keptT_len nm to b.exits i
 have hpl := plN_le nm i
 by_cases hi2 : i < b.exits.length
 ·simp only [push_cast, simprocAttr, hi2]
  have hgt := kw_get nm (k := i) hi2
  rw [if_neg (Nat.lt_irrefl i)] at hgt
  refine hE g1 vk vx _ _ i _ h5 hr5 hkl (by omega) hi2 (getD_map (n := i) hs3) (fun hne => ?_) fun ρ g2 vx' h6 f0 f2 f6 f56 f57 f58 hs2' k5 k3 hr6 => ?_
  ·refine hok i hi2 ?_
   cases hm : nm i with
   | true => rfl
   | false => rw [hgt, hm] at hne; simp at hne
  ·simp (disch := omega) only [push_cast, simprocAttr, wrap_i64, toNat_ofInt64, Nat.min_eq_left, Int.toNat_of_nonneg, f0, f2, f6, f56, f57, f58]
   refine ⟨_, _, by omega, .refl _, i + 1, g2, vx', rfl, by omega, hs.trans hs2', by rw [k5, h5e], by rw [k3, h3e], ?_, rfl⟩
   rw [hgt, htl] at hr6
   rw [keptT_succ]
   cases hm : nm i with
   | true =>
    rw [hm] at hr6
    simp only [if_true, show ¬ ((1 : Int) = 0) by decide, if_false] at hr6
    rw [kw_set nm hi2 hm] at hr6
    simpa using hr6
   | false =>
    rw [hm] at hr6
    simp only [Bool.false_eq_true, if_false, if_true] at hr6
    rw [← kw_skip nm hm]
    simpa using hr6
 ·obtain rfl : i = b.exits.length := by omega
  have hnl : nm last.toNat = true := by
   rw [← hnm]; unfold namedX
   rw [decide_eq_true (by omega : last = (last.toNat : Int)), Bool.true_or]
  have hgl := kw_get nm (n := b.exits.length) (k := b.exits.length) (j := last.toNat) (by omega)
  rw [if_pos hnl, if_pos (by omega)] at hgl
  obtain ⟨bk', prk, capk, spk, hvk, hbk', _, k3', _⟩ := hr5.mark (by omega)
  rw [hkl] at hvk
  have hgetk : (prk ++ (kw nm b.exits.length b.exits.length).map (AV.int .i64))[prk.length + last.toNat]? = some (.int .i64 (plN nm last.toNat)) := by rw [ints_getP, if_pos (by omega), hgl]
  obtain ⟨vo6, hc6, hr6⟩ := hr5.lst (plN nm last.toNat)
  obtain ⟨vo6', hb6, _, _, _⟩ := hr5.at
  have q : last.toNat < b.exits.length := by omega
  subst hvk
  simp (disch := omega) only [push_cast, simprocAttr, wrap_i64, toNat_ofInt64, Nat.min_eq_left, Int.toNat_of_nonneg, hi2, hb6, hc6, hbk', hgetk, q, hl0, hl1]
  have hnx : ∀ j : Nat, j < l.length → ∀ x : Int, takes (l.getD j IOp.zero) x → 0 ≤ x → nm x.toNat = true := fun j hj x ht h0 => by
   rw [← hnm]
   exact takes_named (by rw [List.getD_eq_getElem?_getD, List.getElem?_eq_getElem hj]; simp) ht h0
  have hgx : ∀ x : Int, 0 ≤ x → x < b.exits.length → nm x.toNat = true → (kw nm b.exits.length b.exits.length).getD x.toNat 0 = plN nm x.toNat := fun x h0 h1 hm => by
   rw [kw_get nm (by omega), if_pos hm, if_pos (by omega)]
  refine hO g1 _ vx _ _ (plN nm last.toNat) _ _ hr6 (by rw [hkl]; omega) (fun j hj => ?_) fun ρ h7 hr7 => ?_
  ·obtain ⟨x1, x2, x3⟩ := hx j hj
   refine ⟨x1, fun h4 => ?_, fun h5 => ?_⟩
   ·obtain ⟨y1, y2⟩ := x2 h4
    exact ⟨⟨y1, by rw [hkl]; exact y2⟩, hgx _ y1 y2 (hnx j hj _ (.inl ⟨h4, rfl⟩) y1)⟩
   ·obtain ⟨y1, y2⟩ := x3 h5
    exact ⟨⟨y1, by rw [hkl]; exact y2⟩, hgx _ y1 y2 (hnx j hj _ (.inr ⟨h5, rfl⟩) y1)⟩
  ·rw [keptT_all] at hr7
   exact ⟨g1, _, _, vx, hs, h5e, h3e, hr7⟩
end
end Go.Ab
end
section
namespace Go.Ab
open Go.Proofs
variable {G : Glo} {h : Heap}
theorem Spec.preU {P : Program} {f : FuncId} {args : List AV} {h h1 : Heap} {Q : AV → Heap → Prop} (hl : ∀ u, Le u h u h1) (hs : Spec P G f args h1 Q) : Spec P G f args h Q := by
 intro w vs k1 k2 k3
 obtain ⟨x, _, z⟩ := hl .any w (.int .i64 0) k1 (.any _)
 have y : RepL w h1.dom args vs := ⟨k3.1, fun i a v e1 e2 => (hl a w v k1 (k3.2 i a v e1 e2)).2.1⟩
 have hk : Keeps w h.dom w h1.dom := ⟨Nat.le_refl _, fun b _ hn => ⟨fun hd => hd (z b (Classical.not_not.1 hn)), rfl⟩, fun _ h => h⟩
 refine (hs w vs x (k2.keep hk) y).mono ?_
 rintro e w' ⟨v', r, h', he, q, m1, m2, m3⟩
 exact ⟨v', r, h', he, q, m1, m2, ⟨m3.size, fun b hb hn => m3.blk b hb (z b hn), m3.cel, m3.os, m3.tape, m3.out⟩⟩
theorem ExO.dn {s2 n : Nat} {g h1 : Heap} {v vx : AV} {c : List AV} {es : List IEx} (o : Own s2 g v c n h1) (ex : ExO h1 vx es h) : ∃ h2, ExO g vx es h2 ∧ Own s2 h2 v c n h := by
 obtain ⟨h3, ws, o5, r⟩ := ex
 obtain ⟨h4, q1, q2⟩ := own_swap o o5
 obtain ⟨h5, r1, q3⟩ := Rows.dn q2 r
 exact ⟨h5, ⟨h4, ws, q1, r1⟩, q3⟩
theorem GX.le {g h' : Heap} {b5 c3 : Nat} {b : IBk} {to kept : List Int} {vk vx : AV} (hr : GX g b5 c3 (.ro (wds b.pcs) b.pcs.length) to b.ops vk kept vx b.exits b.last h') (hs : Sub h g) (h5 : h b5 = none) (h3 : h c3 = none) : Le (.ptr c3 0) h' (bkP b) h := by
 obtain ⟨hn, vo, h1, h2, o1, o2, ex⟩ := hr
 have k3 : (Ab.upd (Ab.upd g c3 ⟨[.ro (wds b.pcs) b.pcs.length, vo, vx, .int .i64 b.last], 0⟩) b5 ⟨[.ptr c3 0, .ro (to.map (.int .i64)) to.length], 0⟩) c3 = some ⟨[.ro (wds b.pcs) b.pcs.length, vo, vx, .int .i64 b.last], 0⟩ := by rw [upd_ne (Ne.symm hn)]; exact upd_same _ _ _
 have hB : Sub h (Ab.upd (Ab.upd g c3 ⟨[.ro (wds b.pcs) b.pcs.length, vo, vx, .int .i64 b.last], 0⟩) b5 ⟨[.ptr c3 0, .ro (to.map (.int .i64)) to.length], 0⟩) := sub_upd h5 (sub_upd h3 hs)
 obtain ⟨h1', q1, q2⟩ := own_swap o1 o2
 obtain ⟨h3', ex', q3⟩ := ExO.dn q2 ex
 have k3' := ex'.sub _ _ (q1.get k3)
 have e1 := upd_self k3'
 rw [← e1] at q3
 have ex2 := ex'.upd (b := c3) (x := ⟨[.ro (wds b.pcs) b.pcs.length, ops b.ops, vx, .int .i64 b.last], 0⟩) (.inr ⟨_, q1.get k3⟩)
 refine le_trans (Le.cell q3 (cs' := [.ro (wds b.pcs) b.pcs.length, ops b.ops, vx, .int .i64 b.last]) rfl (fun i => ?_)) (exo_le (b := b) (sub_upd h3 (hB.trans q1.sub)) h3 (upd_same _ _ _) ex2)
 match i with
 | 0 => exact .inl rfl
 | 1 => exact .inr ⟨rfl, rfl⟩
 | 2 => exact .inl rfl
 | 3 => exact .inl rfl
 | i + 4 => exact .inl rfl
theorem gd_exits {b : IBk} (hc : b.check = 0) {m : Nat} (hm : m ≤ b.ops.length) (e1 : (gScan b.last b.ops ⟨[], []⟩).1 = psN gF (b.ops.take m)) (e2 : b.exit (gScan b.last b.ops ⟨[], []⟩).2 m = true) :
  (∀ j, j < (psN gF (b.ops.take m)).l.length → ∃ i, i < m ∧ (psN gF (b.ops.take m)).l.getD j IOp.zero = ren (psN gF (b.ops.take i)).to (b.ops.getD i IOp.zero) ∧ ∀ x, takes ((psN gF (b.ops.take m)).l.getD j IOp.zero) x → b.exit x i = true) ∧
   ∀ n : Nat, namedX (psN gF (b.ops.take m)).l (gScan b.last b.ops ⟨[], []⟩).2 n = true → ∃ i, i ≤ m ∧ b.exit n i = true := by
 have hp := right_parts hc
 have hsrc := psN_src gF b.ops m hm
 have key : ∀ j, j < (psN gF (b.ops.take m)).l.length → ∃ i, i < m ∧ (psN gF (b.ops.take m)).l.getD j IOp.zero = ren (psN gF (b.ops.take i)).to (b.ops.getD i IOp.zero) ∧ ∀ x, takes ((psN gF (b.ops.take m)).l.getD j IOp.zero) x → b.exit x i = true := by
  intro j hj
  obtain ⟨i, h1, h2, h3, h4⟩ := hsrc j hj
  have e3 : ∀ l o, (gF l o).2 = o := fun l o => by unfold gF; split <;> rfl
  rw [e3] at h4
  refine ⟨i, h1, h4, fun x ht => ?_⟩
  rw [h4] at ht
  unfold takes at ht
  rw [ren_code, (ren_xy _ _).1, (ren_xy _ _).2.1] at ht
  exact opR_takes (hp.1 i (by omega)) ht
 refine ⟨key, fun n hn => ?_⟩
 unfold namedX at hn
 rw [Bool.or_eq_true, List.any_eq_true, decide_eq_true_eq] at hn
 rcases hn with h | ⟨o, h1, h2⟩
 ·exact ⟨m, Nat.le_refl _, by rw [← h]; exact e2⟩
 ·simp only [Bool.or_eq_true, Bool.and_eq_true, decide_eq_true_eq] at h2
  obtain ⟨j, hj, rfl⟩ := List.getElem_of_mem h1
  have e4 : (psN gF (b.ops.take m)).l[j] = (psN gF (b.ops.take m)).l.getD j IOp.zero := by simp [hj]
  rw [e4] at h2
  obtain ⟨i, q1, q2, q3⟩ := key j hj
  exact ⟨i, by omega, q3 n h2⟩
theorem AgV.exit {b : IBk} {m : Nat} {to to' : List Int} (ha : AgV b m to to') {n i : Nat} (hi : i ≤ m) (h : b.exit n i = true) : exOK to' (b.exits.getD n IEx.zero) ∧ renE to' (b.exits.getD n IEx.zero) = renE to (b.exits.getD n IEx.zero) := by
 obtain ⟨_, h3, h4⟩ := exit_parts h
 have he : b.ex (n : Int).toNat = b.exits.getD n IEx.zero := rfl
 rw [he] at h3 h4
 generalize b.exits.getD n IEx.zero = e at *
 have hb : ∀ x, vin b.ops i x → 0 ≤ x ∧ x < to'.length := fun x ⟨a, c, _, _⟩ => ⟨a, by rw [ha.1]; omega⟩
 refine ⟨⟨h3.imp id (hb _), fun v hv => hb _ (h4 v hv)⟩, ?_⟩
 unfold renE
 have hmap : e.map.map (renV to') = e.map.map (renV to) := by
  refine List.map_congr_left fun v hv => ?_
  unfold renV
  rw [ha.at hi (h4 v hv)]
 rw [hmap]
 rcases h3 with h3 | h3
 ·rw [if_pos h3, if_pos h3]
 ·rw [ha.at hi h3]
theorem guardDo_spec (b : IBk) (hw : b.wf) (hc : b.check = 0) : Spec Tryz.prog G 68 [bkP b] h (Is (.tup [bkP b.gd, .int .i64 0]) h) := by
 obtain ⟨hops, hexs⟩ := right_parts hc
 obtain ⟨hs1, hs2, hs3⟩ := hw.hs
 refine Spec.weak (Q := fun r h' => ∃ b5 c3 g to vk kept vx, r = .tup [.ptr c3 0, .int .i64 0] ∧ h c3 = none ∧ h b5 = none ∧ Sub h g ∧ GX g b5 c3 (.ro (wds b.pcs) b.pcs.length) to b.gd.ops vk kept vx b.gd.exits b.gd.last h') ?_ ?_
 ·refine Spec.walk C68ok rfl ?_
  simp only [push_cast, simprocAttr]
  refine (Check_spec b hw).to ?_
  rw [hc]
  simp only [push_cast, simprocAttr]
  refine (cloneP_spec b.pcs hw.hq).to ?_
  simp only [push_cast, simprocAttr]
  intro c3 hc3 b5 hb5
  have n := upd_none hb5
  have hr0 : PsO h b5 c3 (.ro (wds b.pcs) b.pcs.length) .nils (.int .i64 0) [] .nils [] [] (Ab.upd (Ab.upd h c3 ⟨[.ro (wds b.pcs) b.pcs.length, .nils, .nils, .int .i64 0], 0⟩) b5 ⟨[.ptr c3 0, .nils], 0⟩) := ⟨n.1, .nils, _, .nil, .nil⟩
  refine (gthrough_spec b hw hc hr0).mono ?_
  rintro _ h3 ⟨rfl, m, vt, toR, g', hm, hs, he5, he3, e1, hag, hr3⟩
  have e2 : b.exit (gScan b.last b.ops ⟨[], []⟩).2 m = true := by
   obtain ⟨m', hm', q1, q2⟩ := gScan_at b.ops b.last b.ops.length 0 (by omega)
   rw [List.drop_zero, List.take_zero] at q1 q2
   have e0 : psN gF [] = ⟨[], []⟩ := rfl
   rw [e0] at q1 q2
   have el : (psN gF (b.ops.take m)).to.length = (psN gF (b.ops.take m')).to.length := by rw [← e1, q1]
   rw [psN_to, psN_to, List.length_take, List.length_take] at el
   have : m' = m := by omega
   subst this
   rcases q2 with ⟨h1, h2⟩ | ⟨h1, h2, h3, h4⟩
   ·rw [h2, h1]
    have := chk_right hc
    simp only [IBk.right, Bool.and_eq_true] at this
    exact this.2
   ·rw [h4]
    exact opR_takes (hops _ h1) (.inl ⟨by omega, rfl⟩)
  obtain ⟨k1, k2⟩ := gd_exits hc hm e1 e2
  have hgd : b.gd = prB b.pcs (psN gF (b.ops.take m)).l b.exits (gScan b.last b.ops ⟨[], []⟩).2 (renE (psN gF (b.ops.take m)).to) := by unfold IBk.gd; rw [e1]
  rw [hgd]
  have hll := psN_l gF (b.ops.take m)
  rw [List.length_take] at hll
  generalize psN gF (b.ops.take m) = s at *
  generalize (gScan b.last b.ops ⟨[], []⟩).2 = lX at *
  simp only [push_cast, simprocAttr]
  obtain ⟨hn, vo, h1, o1, o2⟩ := hr3
  have e1' := upd_self (o1.get (upd_same _ _ _))
  rw [← e1'] at o2
  have o1' := Own.upd o1 (b := b5) (x := ⟨[.ptr c3 0, .ro (toR.map (.int .i64)) toR.length], 0⟩) (.inr ⟨_, upd_same _ _ _⟩)
  rw [upd_upd] at o1'
  have hlast := (exit_parts e2).1
  refine (Spec.preU (h1 := Ab.upd h1 b5 ⟨[.ptr c3 0, .ro (toR.map (.int .i64)) toR.length], 0⟩) (fun u => Le.cell o2 (cs' := [.ptr c3 0, .ro (toR.map (.int .i64)) toR.length]) rfl (fun i => ?_)) (gexits_spec (last := lX) b hw hn o1' (by omega) hlast (fun j hj => ?_) (fun n hn hm => ?_))).mono ?_
  ·match i with
   | 0 => exact .inl rfl
   | 1 => exact .inr ⟨rfl, rfl⟩
   | i + 2 => exact .inl rfl
  ·obtain ⟨i, q1, q2, q3⟩ := k1 j hj
   refine ⟨?_, fun h4 => (exit_parts (q3 _ (.inl ⟨h4, rfl⟩))).1, fun h5 => (exit_parts (q3 _ (.inr ⟨h5, rfl⟩))).1⟩
   rw [q2, ren_code]
   have := kind_of (hops i (by omega))
   unfold kindN at this
   simp only at this
   (repeat' split at this) <;> first | omega | (cases this)
  ·obtain ⟨i, q1, q2⟩ := k2 n hm
   exact (hag.exit q1 q2).1
  ·rintro _ h6 ⟨g1, vk, kept, vx, hs1', h5', h3', hr6⟩
   obtain ⟨vo6, hb6, hc6, _, _⟩ := hr6.at
   simp only [push_cast, simprocAttr, hb6]
   refine ⟨b5, c3, g1, toR, vk, kept, vx, rfl, hc3, n.2, hs.trans hs1', ?_⟩
   have hex : (keptE (namedX s.l lX) b.exits).map (renE toR) = (keptE (namedX s.l lX) b.exits).map (renE s.to) := by
    unfold keptE
    rw [List.map_map, List.map_map]
    refine List.map_congr_left fun n hn => ?_
    rw [List.mem_filter] at hn
    obtain ⟨i, q1, q2⟩ := k2 n hn.2
    exact (hag.exit q1 q2).2
   rw [hex] at hr6
   exact hr6
 ·rintro _ _ ⟨b5, c3, g, to, vk, kept, vx, rfl, h3, h5, hs, hr⟩
  exact ⟨_, _, ⟨rfl, rfl⟩, le_tup1 (GX.le hr hs h5 h3)⟩
end Go.Ab
end
section
namespace Go.Ab
def ownV (b : IBk) (v : IVl) : Bool := decide ((b.op v.val.toNat).code = 1) && decide (((b.op v.val.toNat).imm.toNat : Int) = v.reg)
structure KpOk (b : IBk) (kp : Nat → Bool) : Prop where
 acts : ∀ k, k < b.ops.length → 4 ≤ (b.op k).code → kp k = true
 to : ∀ n, n < b.exits.length → namedX b.ops b.last n = true → (b.ex n).to ≠ -1 → kp (b.ex n).to.toNat = true
 map : ∀ n, n < b.exits.length → namedX b.ops b.last n = true → ∀ v ∈ (b.ex n).map, ownV b v = false → kp v.val.toNat = true
 a : ∀ k, k < b.ops.length → kp k = true → 3 ≤ (b.op k).code → kp (b.op k).a.toNat = true
 b : ∀ k, k < b.ops.length → kp k = true → (b.op k).code = 3 ∨ 5 ≤ (b.op k).code → kp (b.op k).b.toNat = true
def upk (kp : Nat → Bool) (n : Nat) : List Int := (List.range n).map fun i => (plN kp i : Int)
theorem upk_get {kp : Nat → Bool} {n i : Nat} (h : i < n) : (upk kp n).getD i 0 = (plN kp i : Int) := by simp [upk, h]
def keptO (kp : Nat → Bool) (b : IBk) (n : Nat) : List IOp := ((List.range n).filter kp).map fun k => ren (upk kp b.ops.length) (b.op k)
def trE (b : IBk) (to : List Int) (e : IEx) : IEx := renE to { e with map := e.map.filter fun v => !ownV b v }
def IBk.dd (b : IBk) (kp : Nat → Bool) : IBk := prB b.pcs (keptO kp b b.ops.length) b.exits b.last (trE b (upk kp b.ops.length))
theorem keptO_len (kp : Nat → Bool) (b : IBk) (n : Nat) : (keptO kp b n).length = plN kp n := by simp [keptO, plN]
theorem keptO_succ (kp : Nat → Bool) (b : IBk) (n : Nat) : keptO kp b (n + 1) = if kp n then keptO kp b n ++ [ren (upk kp b.ops.length) (b.op n)] else keptO kp b n := by
 rw [keptO, keptO, List.range_succ, List.filter_append, List.map_append]
 cases h : kp n <;> simp [h]
theorem keptO_at {kp : Nat → Bool} {b : IBk} {n k : Nat} (hk : k < n) (hm : kp k = true) : (keptO kp b n).getD (plN kp k) IOp.zero = ren (upk kp b.ops.length) (b.op k) := by
 rw [List.getD_eq_getElem?_getD, keptO, List.getElem?_map, filt_at kp hk hm]
 rfl
section
variable {b : IBk} {kp : Nat → Bool}
theorem kept_vin (hk : KpOk b kp) {j : Nat} (hj : j ≤ b.ops.length) {n : Int} (h : vin b.ops j n) (hm : kp n.toNat = true) : vin (keptO kp b b.ops.length) (plN kp j) ((upk kp b.ops.length).getD n.toNat 0) := by
 obtain ⟨h1, h2, h3, h4⟩ := h
 rw [upk_get (by omega)]
 have hlt := plN_lt kp (show n.toNat < j by omega) hm
 have hmo := plN_mono kp hj
 refine ⟨by omega, by omega, by rw [keptO_len]; omega, ?_⟩
 rw [Int.toNat_natCast, keptO_at (by omega) hm]
 unfold valued at h4 ⊢
 rw [ren_code]
 exact h4
theorem named_kept (hk : KpOk b kp) (n : Nat) : namedX (keptO kp b b.ops.length) b.last n = namedX b.ops b.last n := by
 unfold namedX
 congr 1
 rw [Bool.eq_iff_iff, List.any_eq_true, List.any_eq_true]
 constructor
 ·rintro ⟨o, h1, h2⟩
  simp only [keptO, List.mem_map, List.mem_filter, List.mem_range] at h1
  obtain ⟨k, ⟨h3, _⟩, rfl⟩ := h1
  refine ⟨b.op k, ?_, ?_⟩
  ·have : b.op k = b.ops[k] := by simp [IBk.op, h3]
   rw [this]; exact List.getElem_mem h3
  ·rw [ren_code, (ren_xy _ _).1, (ren_xy _ _).2.1] at h2
   exact h2
 ·rintro ⟨o, h1, h2⟩
  obtain ⟨k, hk2, rfl⟩ := List.getElem_of_mem h1
  have e : b.ops[k] = b.op k := by simp [IBk.op, hk2]
  rw [e] at h2
  refine ⟨ren (upk kp b.ops.length) (b.op k), ?_, ?_⟩
  ·simp only [keptO, List.mem_map, List.mem_filter, List.mem_range]
   refine ⟨k, ⟨hk2, hk.acts k hk2 ?_⟩, rfl⟩
   simp only [Bool.or_eq_true, Bool.and_eq_true, decide_eq_true_eq] at h2
   rcases h2 with h | h <;> omega
  ·rw [ren_code, (ren_xy _ _).1, (ren_xy _ _).2.1]
   exact h2
theorem dd_exAt (hc : b.check = 0) (hk : KpOk b kp) {j : Nat} (hj : j ≤ b.ops.length) {x : Int} (h : b.exit x j = true) (hn : namedX b.ops b.last x.toNat = true) : exAt (keptO kp b b.ops.length) b.exits (trE b (upk kp b.ops.length)) (plN kp j) x := by
 obtain ⟨⟨h1, h2⟩, h3, h4⟩ := exit_parts h
 have he : b.exits.getD x.toNat IEx.zero = b.ex x.toNat := rfl
 refine ⟨⟨h1, h2⟩, ?_, fun v hv => ?_⟩
 ·rw [he]
  rcases h3 with h | h
  ·left; simp only [trE, renE]; rw [if_pos h]
  ·right
   have hne : (b.ex x.toNat).to ≠ -1 := by have := h.1; omega
   simp only [trE, renE, if_neg hne]
   exact kept_vin hk hj h (hk.to _ (by omega) hn hne)
 ·rw [he] at hv
  simp only [trE, renE, List.mem_map, List.mem_filter] at hv
  obtain ⟨w, ⟨hw, ho⟩, rfl⟩ := hv
  exact kept_vin hk hj (h4 w hw) (hk.map _ (by omega) hn w hw (by simpa using ho))
theorem reg_pairs (e : IEx) : (∀ i, i < e.map.length → regN e i = true) ↔ (∀ v ∈ e.map, 1 ≤ v.reg ∧ v.reg ≤ 31) ∧ e.map.Pairwise fun u v => u.reg < v.reg := by
 have hvl : ∀ i (hi : i < e.map.length), e.vl i = e.map[i] := fun i hi => by simp [IEx.vl, hi]
 constructor
 ·intro h
  refine ⟨fun v hv => ?_, ?_⟩
  ·obtain ⟨i, hi, rfl⟩ := List.getElem_of_mem hv
   have := (regN_iff e i).1 (h i hi)
   rw [hvl i hi] at this
   exact ⟨this.1, this.2.1⟩
  ·rw [List.pairwise_iff_getElem]
   have step : ∀ i, i + 1 < e.map.length → (e.vl i).reg < (e.vl (i + 1)).reg := fun i hi => by
    have := (regN_iff e (i + 1)).1 (h (i + 1) hi)
    rcases this.2.2 with q | q
    ·omega
    ·simpa using q
   intro i j hi hj hij
   rw [← hvl i hi, ← hvl j hj]
   induction j with
   | zero => omega
   | succ j ih =>
    by_cases q : i = j
    ·subst q; exact step i hj
    ·have := ih (by omega) (by omega)
     have := step j hj
     omega
 ·rintro ⟨h1, h2⟩ i hi
  rw [regN_iff, hvl i hi]
  obtain ⟨q1, q2⟩ := h1 _ (List.getElem_mem hi)
  refine ⟨q1, q2, ?_⟩
  by_cases h0 : i = 0
  ·exact .inl h0
  ·right
   rw [hvl (i - 1) (by omega)]
   exact List.pairwise_iff_getElem.1 h2 (i - 1) i (by omega) hi (by omega)
theorem leafK_tr {n : Nat} {e : IEx} (t : List Int) (h : leafK n e) : leafK n (trE b t e) := by
 refine leafK_ren t ?_
 obtain ⟨h1, h2, h3, h4, h5, h6⟩ := h
 obtain ⟨q1, q2⟩ := (reg_pairs e).1 h6
 exact ⟨h1, h2, h3, h4, h5, (reg_pairs _).2 ⟨fun v hv => q1 v ((List.mem_filter.1 hv).1), q2.filter _⟩⟩
theorem dd_check (hc : b.check = 0) (hk : KpOk b kp) : (b.dd kp).check = 0 := by
 obtain ⟨hp1, hp2, hp3, hp4, hp5⟩ := long_parts hc
 have hp := right_parts hc
 have hlen := keptO_len kp b b.ops.length
 have hple : plN kp b.ops.length ≤ b.ops.length := by
  rw [plN]
  have := List.length_filter_le kp (List.range b.ops.length)
  simpa using this
 have src : ∀ j, j < (keptO kp b b.ops.length).length → ∃ k, k < b.ops.length ∧ kp k = true ∧ plN kp k = j ∧ (keptO kp b b.ops.length).getD j IOp.zero = ren (upk kp b.ops.length) (b.op k) := by
  intro j hj
  rw [hlen] at hj
  obtain ⟨k, h1, h2, h3⟩ := filt_src kp hj
  exact ⟨k, h1, h2, h3, by rw [← h3]; exact keptO_at h1 h2⟩
 have hla : b.exit b.last b.ops.length = true := by
  have := chk_right hc
  simp only [IBk.right, Bool.and_eq_true] at this
  exact this.2
 have hln : namedX b.ops b.last b.last.toNat = true := by
  unfold namedX
  rw [Bool.or_eq_true, decide_eq_true_eq]
  left
  have := (exit_parts hla).1.1
  omega
 have hx : ∀ j, j < (keptO kp b b.ops.length).length → ∀ x, takes ((keptO kp b b.ops.length).getD j IOp.zero) x → exAt (keptO kp b b.ops.length) b.exits (trE b (upk kp b.ops.length)) j x := by
  intro j hj x ht
  obtain ⟨k, h1, h2, h3, h4⟩ := src j hj
  rw [h4] at ht
  unfold takes at ht
  rw [ren_code, (ren_xy _ _).1, (ren_xy _ _).2.1] at ht
  have hex := opR_takes (hp.1 k h1) ht
  rw [← h3]
  refine dd_exAt hc hk (by omega) hex ?_
  have hmem : b.op k ∈ b.ops := by
   have : b.op k = b.ops[k] := by simp [IBk.op, h1]
   rw [this]; exact List.getElem_mem h1
  exact takes_named hmem ht (exit_parts hex).1.1
 have hlast := dd_exAt hc hk (Nat.le_refl _) hla hln
 rw [← hlen] at hlast
 refine pr_check hp4 hp1 hp5 (by omega) hp3 (fun j hj => ?_) (fun j hj => ?_) hx hlast (fun n hn hnm => ⟨leafK_tr _ (leafK_of (hp.2 n hn)), ?_⟩)
 ·obtain ⟨k, h1, h2, h3, h4⟩ := src j hj
  rw [h4]
  have hg : goodAt b.ops k (b.op k) := good_of (hp.1 k h1)
  have hcode := ren_code (upk kp b.ops.length) (b.op k)
  constructor
  ·intro c
   rw [hcode] at c
   obtain ⟨g1, g2⟩ := hg.1 c
   unfold ren
   rw [if_pos c, ← h3]
   exact ⟨kept_vin hk (by omega) g1 (hk.a k h1 h2 (by omega)), kept_vin hk (by omega) g2 (hk.b k h1 h2 (by omega))⟩
  ·intro c
   rw [hcode] at c
   have g1 := hg.2 c
   unfold ren
   rw [if_neg (by omega), if_pos c, ← h3]
   exact kept_vin hk (by omega) g1 (hk.a k h1 h2 (by omega))
 ·obtain ⟨k, h1, h2, h3, h4⟩ := src j hj
  rw [h4, opK_ren]
  exact opK_of (hp.1 k h1)
 ·unfold namedX at hnm
  rw [Bool.or_eq_true, List.any_eq_true, decide_eq_true_eq] at hnm
  rcases hnm with h | ⟨o, h1, h2⟩
  ·rw [← h]; exact hlast
  ·simp only [Bool.or_eq_true, Bool.and_eq_true, decide_eq_true_eq] at h2
   obtain ⟨j, hj, rfl⟩ := List.getElem_of_mem h1
   have e4 : (keptO kp b b.ops.length)[j] = (keptO kp b b.ops.length).getD j IOp.zero := by simp [hj]
   rw [e4] at h2
   exact exAt_mono (hx j hj n h2) (by omega)
structure DdI (b : IBk) (kp : Nat → Bool) (regs : List (BitVec 32)) (k : Nat) (vals vals' : List (BitVec 32)) : Prop where
 n1 : vals.length = k
 n2 : vals'.length = plN kp k
 eq : ∀ i : Nat, i < k → kp i = true → lv vals' (plN kp i : Int) = lv vals i
 inn : ∀ i : Nat, i < k → (b.op i).code = 1 → lv vals i = regs.getD (b.op i).imm.toNat 0#32
def keptR (kp : Nat → Bool) (b : IBk) : Nat → Nat → List IOp
 | 0, _ => []
 | n + 1, k => if kp k then ren (upk kp b.ops.length) (b.op k) :: keptR kp b n (k + 1) else keptR kp b n (k + 1)
theorem keptR_eq (n : Nat) : ∀ k, keptO kp b k ++ keptR kp b n k = keptO kp b (k + n) := by
 induction n with
 | zero => intro k; simp [keptR]
 | succ n ih =>
  intro k
  have := ih (k + 1)
  rw [keptO_succ] at this
  rw [keptR, show k + (n + 1) = k + 1 + n by omega, ← this]
  cases h : kp k <;> simp [h]
theorem dd_run (hc : b.check = 0) (hk : KpOk b kp) (regs : List (BitVec 32)) : ∀ (n k : Nat) (vals vals' : List (BitVec 32)) (M : IRam), k + n = b.ops.length → DdI b kp regs k vals vals' →
  (runN regs (keptR kp b n k) vals' M).1 = (runN regs (b.ops.drop k) vals M).1 ∧ (runN regs (keptR kp b n k) vals' M).2.2 = (runN regs (b.ops.drop k) vals M).2.2 ∧
   ∃ j : Nat, j ≤ b.ops.length ∧ ((runN regs (b.ops.drop k) vals M).1 = none → j = b.ops.length) ∧ (∀ x, (runN regs (b.ops.drop k) vals M).1 = some x → b.exit x j = true) ∧
    (∀ i : Nat, i < j → kp i = true → lv (runN regs (keptR kp b n k) vals' M).2.1 (plN kp i : Int) = lv (runN regs (b.ops.drop k) vals M).2.1 i) ∧
    ∀ i : Nat, i < j → (b.op i).code = 1 → lv (runN regs (b.ops.drop k) vals M).2.1 i = regs.getD (b.op i).imm.toNat 0#32 := by
 have hr := chk_right hc
 have hp := right_parts hc
 intro n
 induction n with
 | zero =>
  intro k vals vals' M hkn hs
  rw [List.drop_of_length_le (by omega)]
  have hkm : k = b.ops.length := by omega
  subst hkm
  exact ⟨rfl, rfl, _, Nat.le_refl _, fun _ => rfl, fun x hx => (by cases hx), hs.eq, hs.inn⟩
 | succ n ih =>
  intro k vals vals' M hkn hs
  have hk2 : k < b.ops.length := by omega
  have hdr : b.ops.drop k = b.op k :: b.ops.drop (k + 1) := by
   rw [List.drop_eq_getElem_cons hk2]; congr 1; simp [IBk.op, hk2]
  have hgo : goodAt b.ops k (b.op k) := good_of (hp.1 k hk2)
  have hex := fun hx => step_exit hr k hk2 regs vals M hx
  have hn1 := hs.n1
  have hn2 := hs.n2
  rw [hdr, keptR]
  have hvk : ∀ i : Nat, i < k → ∀ w, lv (vals ++ [w]) (i : Int) = lv vals (i : Int) := fun i hi w => lv_app (by omega)
  have hpk : ∀ i : Nat, i < k → kp i = true → ∀ w, lv (vals' ++ [w]) (plN kp i : Int) = lv vals' (plN kp i : Int) := fun i hi hm w => lv_app (by have := plN_lt kp hi hm; omega)
  have hinn : ∀ w, ((b.op k).code = 1 → w = regs.getD (b.op k).imm.toNat 0#32) → ∀ i : Nat, i < k + 1 → (b.op i).code = 1 → lv (vals ++ [w]) i = regs.getD (b.op i).imm.toNat 0#32 := fun w hw i hi h1 => by
   by_cases e : i = k
   ·subst e; rw [lv_last (by omega)]; exact hw h1
   ·rw [hvk i (by omega)]; exact hs.inn i (by omega) h1
  have hw1 : (b.op k).code = 1 → (stepN regs (b.op k) vals M).1 = regs.getD (b.op k).imm.toNat 0#32 := fun h1 => by rw [step_in regs h1]
  cases hm : kp k with
  | false =>
   have hc3 : (b.op k).code < 4 := by
    by_cases h4 : (b.op k).code < 4
    ·exact h4
    ·have := hk.acts k hk2 (by omega)
     rw [hm] at this; cases this
   have hx : (stepN regs (b.op k) vals M).2 = (-1, M) := by
    by_cases h1 : 1 ≤ (b.op k).code
    ·exact (step_plain regs h1 (by omega) vals M M).2
    ·unfold stepN
     rw [if_neg (by omega), if_neg (by omega), if_neg (by omega), if_neg (by omega), if_neg (by omega)]
   have hS : DdI b kp regs (k + 1) (vals ++ [(stepN regs (b.op k) vals M).1]) vals' := by
    refine ⟨by simp [hn1], by rw [plN_succ, hm]; simpa using hn2, fun i hi hki => ?_, hinn _ hw1⟩
    have hne : i ≠ k := fun e => by rw [e, hm] at hki; cases hki
    rw [hvk i (by omega)]
    exact hs.eq i (by omega) hki
   have hrun : runN regs (b.op k :: b.ops.drop (k + 1)) vals M = runN regs (b.ops.drop (k + 1)) (vals ++ [(stepN regs (b.op k) vals M).1]) M := by
    simp only [runN, hx]
    rfl
   rw [hrun, if_neg (by simp)]
   exact ih (k + 1) _ _ M (by omega) hS
  | true =>
   rw [if_pos rfl]
   have hva : ∀ m, vin b.ops k m → kp m.toNat = true → lv vals' ((upk kp b.ops.length).getD m.toNat 0) = lv vals m := fun m ⟨h1, h2, _, h4⟩ hkm => by
    rw [upk_get (by omega), hs.eq m.toNat (by omega) hkm]
    congr 1
    omega
   have hst : stepN regs (ren (upk kp b.ops.length) (b.op k)) vals' M = stepN regs (b.op k) vals M :=
    step_ren regs (fun c => ⟨hva _ (hgo.1 c).1 (hk.a k hk2 hm (by omega)), hva _ (hgo.1 c).2 (hk.b k hk2 hm (by omega))⟩) (fun c => hva _ (hgo.2 c) (hk.a k hk2 hm (by omega)))
   generalize hw : stepN regs (b.op k) vals M = w at *
   by_cases hx : w.2.1 = -1
   ·have hS : DdI b kp regs (k + 1) (vals ++ [w.1]) (vals' ++ [w.1]) := by
     refine ⟨by simp [hn1], by rw [plN_succ, hm]; simp [hn2], fun i hi hki => ?_, hinn _ hw1⟩
     by_cases e : i = k
     ·subst e
      rw [lv_last (by omega), lv_last (by omega)]
     ·rw [hvk i (by omega), hpk i (by omega) hki]
      exact hs.eq i (by omega) hki
    have hrun : runN regs (b.op k :: b.ops.drop (k + 1)) vals M = runN regs (b.ops.drop (k + 1)) (vals ++ [w.1]) w.2.2 := by
     simp only [runN, hw]
     rw [if_pos hx]
    have hrun' : runN regs (ren (upk kp b.ops.length) (b.op k) :: keptR kp b n (k + 1)) vals' M = runN regs (keptR kp b n (k + 1)) (vals' ++ [w.1]) w.2.2 := by
     simp only [runN, hst]
     rw [if_pos hx]
    rw [hrun, hrun']
    exact ih (k + 1) _ _ _ (by omega) hS
   ·have hrun : runN regs (b.op k :: b.ops.drop (k + 1)) vals M = (some w.2.1, vals ++ [w.1], w.2.2) := by
     simp only [runN, hw]
     rw [if_neg hx]
    have hrun' : runN regs (ren (upk kp b.ops.length) (b.op k) :: keptR kp b n (k + 1)) vals' M = (some w.2.1, vals' ++ [w.1], w.2.2) := by
     simp only [runN, hst]
     rw [if_neg hx]
    rw [hrun, hrun']
    refine ⟨rfl, rfl, k, by omega, fun h => (by cases h), fun x hx' => (by cases hx'; exact hex hx), fun i hi hki => ?_, fun i hi h1 => ?_⟩
    ·simp only
     rw [hvk i hi, hpk i hi hki]
     exact hs.eq i hi hki
    ·simp only
     rw [hvk i hi]
     exact hs.inn i hi h1
theorem foldR_own {V V' : List (BitVec 32)} {t : List Int} {ow : IVl → Bool} : ∀ (m : List IVl) (r : List (BitVec 32)), (∀ v ∈ m, 0 ≤ v.reg) → m.Pairwise (fun u v => u.reg < v.reg) → (∀ v ∈ m, ow v = true → lv V v.val = r.getD v.reg.toNat 0#32) → (∀ v ∈ m, ow v = false → lv V' (t.getD v.val.toNat 0) = lv V v.val) →
  foldR V' ((m.filter fun v => !ow v).map (renV t)) r = foldR V m r := by
 intro m
 induction m with
 | nil => intro r _ _ _ _; rfl
 | cons v m ih =>
  intro r h0 hp ho hn
  have hr : foldR V (v :: m) r = foldR V m (r.set v.reg.toNat (lv V v.val)) := rfl
  have hp1 := (List.pairwise_cons.1 hp).1
  have hp2 := (List.pairwise_cons.1 hp).2
  have hset : ∀ w, ∀ u ∈ m, (r.set v.reg.toNat w).getD u.reg.toNat 0#32 = r.getD u.reg.toNat 0#32 := fun w u hu => by
   have h1 := hp1 u hu
   have h2 := h0 v (by simp)
   simp only [List.getD_eq_getElem?_getD]
   rw [List.getElem?_set_ne (by omega)]
  cases hv : ow v with
  | true =>
   have e : r.set v.reg.toNat (lv V v.val) = r := by
    rw [ho v (by simp) hv]
    apply List.ext_getElem?
    intro i
    rw [List.getElem?_set]
    by_cases q : v.reg.toNat = i
    ·rw [if_pos q]
     split
     ·rename_i h; rw [← q]; simp [h]
     ·rename_i h; rw [List.getElem?_eq_none (by omega)]
    ·rw [if_neg q]
   rw [hr, e]
   simp only [List.filter_cons, hv, Bool.not_true, Bool.false_eq_true, if_false]
   exact ih r (fun u hu => h0 u (by simp [hu])) hp2 (fun u hu => ho u (by simp [hu])) (fun u hu => hn u (by simp [hu]))
  | false =>
   have h1 := hn v (by simp) hv
   simp only [List.filter_cons, hv, Bool.not_false, if_true, List.map_cons]
   have hl : foldR V' (renV t v :: (m.filter fun v => !ow v).map (renV t)) r = foldR V' ((m.filter fun v => !ow v).map (renV t)) (r.set v.reg.toNat (lv V' (t.getD v.val.toNat 0))) := rfl
   rw [hl, hr, h1]
   exact ih _ (fun u hu => h0 u (by simp [hu])) hp2 (fun u hu hou => by rw [hset _ u hu]; exact ho u (by simp [hu]) hou) (fun u hu => hn u (by simp [hu]))
theorem dd_res (hc : b.check = 0) (hk : KpOk b kp) (regs : List (BitVec 32)) (M : IRam) : (b.dd kp).res regs M = b.res regs M := by
 have hp := right_parts hc
 have hS : DdI b kp regs 0 [] [] := ⟨rfl, rfl, fun i h => by omega, fun i h => by omega⟩
 have hrun := dd_run hc hk regs b.ops.length 0 [] [] M (by omega) hS
 have hkr := keptR_eq (kp := kp) (b := b) b.ops.length 0
 have hk0 : keptO kp b 0 = [] := rfl
 rw [hk0, List.nil_append, Nat.zero_add] at hkr
 rw [hkr, List.drop_zero] at hrun
 obtain ⟨q1, q2, j, qj, q3, q4, q5, q6⟩ := hrun
 have hlast : b.exit b.last b.ops.length = true := by
  have := chk_right hc
  simp only [IBk.right, Bool.and_eq_true] at this
  exact this.2
 have hex : b.exit ((runN regs b.ops [] M).1.getD b.last) j = true := by
  cases hx : (runN regs b.ops [] M).1 with
  | none => rw [q3 hx]; exact hlast
  | some x => exact q4 x hx
 obtain ⟨⟨x1, x2⟩, x3, x4⟩ := exit_parts hex
 have hnm : namedX b.ops b.last ((runN regs b.ops [] M).1.getD b.last).toNat = true := by
  cases hx : (runN regs b.ops [] M).1 with
  | none =>
   unfold namedX
   rw [Bool.or_eq_true, decide_eq_true_eq]
   left
   have := (exit_parts hlast).1.1
   simp only [Option.getD_none]
   omega
  | some x =>
   rw [hx] at x1
   obtain ⟨o, h1, h2⟩ := run_takes regs b.ops [] M x hx
   exact takes_named h1 h2 x1
 have hu : ∀ o ∈ keptO kp b b.ops.length, (o.code = 4 ∨ o.code = 5 ∨ o.code = 6 → 0 ≤ o.x) ∧ (o.code = 5 → 0 ≤ o.y) := by
  intro o ho
  simp only [keptO, List.mem_map, List.mem_filter, List.mem_range] at ho
  obtain ⟨k, ⟨h1, _⟩, rfl⟩ := ho
  exact (sane_ren (to := upk kp b.ops.length) (sane_of (hp.1 k h1))).2
 unfold IBk.dd
 rw [pr_res hu regs M (by rw [q1]; exact x1) (by rw [q1]; exact x2), q1, q2]
 unfold IBk.res resB
 generalize (runN regs b.ops [] M).1.getD b.last = n at *
 have he : b.exits.getD n.toNat IEx.zero = b.ex n.toNat := rfl
 rw [he]
 have hlf := leafK_of (hp.2 n.toNat (by omega))
 rw [he] at hlf
 obtain ⟨r1, r2⟩ := (reg_pairs _).1 hlf.2.2.2.2.2
 have hv : ∀ q, vin b.ops j q → kp q.toNat = true → 0 ≤ (upk kp b.ops.length).getD q.toNat 0 ∧ lv (runN regs (keptO kp b b.ops.length) [] M).2.1 ((upk kp b.ops.length).getD q.toNat 0) = lv (runN regs b.ops [] M).2.1 q := fun q ⟨a1, a2, a3, a4⟩ hq => by
  rw [upk_get (by omega)]
  refine ⟨by omega, ?_⟩
  rw [q5 q.toNat (by omega) hq]
  congr 1
  omega
 have l1 : leaveR (trE b (upk kp b.ops.length) (b.ex n.toNat)) regs (runN regs (keptO kp b b.ops.length) [] M).2.1 = leaveR (b.ex n.toNat) regs (runN regs b.ops [] M).2.1 := by
  refine foldR_own (b.ex n.toNat).map regs (fun v hv => by have := (r1 v hv).1; omega) r2 (fun v hw ho => ?_) (fun v hw ho => (hv _ (x4 v hw) (hk.map _ (by omega) hnm v hw ho)).2)
  obtain ⟨a1, a2, a3, a4⟩ := x4 v hw
  simp only [ownV, Bool.and_eq_true, decide_eq_true_eq] at ho
  have h1 := q6 v.val.toNat (by omega) ho.1
  have e1 : ((v.val.toNat : Nat) : Int) = v.val := by omega
  rw [e1] at h1
  rw [h1]
  congr 1
  omega
 have l2 : leaveP (trE b (upk kp b.ops.length) (b.ex n.toNat)) (runN regs (keptO kp b b.ops.length) [] M).2.1 = leaveP (b.ex n.toNat) (runN regs b.ops [] M).2.1 := by
  unfold leaveP trE renE
  simp only
  rcases x3 with h | h
  ·rw [if_pos h, if_pos rfl, if_pos h]
  ·have hne : (b.ex n.toNat).to ≠ -1 := by have := h.1; omega
   have hvv := hv _ h (hk.to _ (by omega) hnm hne)
   rw [if_neg hne, if_neg hne, if_neg (by omega)]
   exact hvv.2
 simp only
 rw [l1, l2]
 rfl
end
end Go.Ab
end
section
namespace Go.Ab
open Go.Proofs
variable {G : Glo} {h : Heap}
def MkO (g : Heap) (b3 b4 : Nat) (fv : AV) (vo vx : AV) (mo mx : List Bool) (h : Heap) : Prop :=
 b3 ≠ b4 ∧ ∃ h1, Own 1 (Ab.upd (Ab.upd g b3 ⟨[vo, vx], 0⟩) b4 ⟨[fv], 0⟩) vo (mo.map .bool) mo.length h1 ∧ Own 1 h1 vx (mx.map .bool) mx.length h
section
variable {g : Heap} {b3 b4 : Nat} {fv vo vx : AV} {mo mx : List Bool}
theorem MkO.at (hr : MkO g b3 b4 fv vo vx mo mx h) : h b3 = some ⟨[vo, vx], 0⟩ ∧ h b4 = some ⟨[fv], 0⟩ ∧ Sub (Ab.upd (Ab.upd g b3 ⟨[vo, vx], 0⟩) b4 ⟨[fv], 0⟩) h := by
 obtain ⟨hn, h1, o1, o2⟩ := hr
 exact ⟨o2.get (o1.get (by rw [upd_ne hn]; exact upd_same _ _ _)), o2.get (o1.get (upd_same _ _ _)), o1.sub.trans o2.sub⟩
theorem MkO.ops (hr : MkO g b3 b4 fv vo vx mo mx h) (hl : 0 < mo.length) : ∃ bo pre cap sp, vo = .sl bo pre.length mo.length cap ∧ h bo = some ⟨pre ++ mo.map .bool, sp⟩ ∧ bo ≠ b3 ∧ bo ≠ b4 ∧ ∀ mo', mo'.length = mo.length → MkO g b3 b4 fv vo vx mo' mx (Ab.upd h bo ⟨pre ++ mo'.map .bool, sp⟩) := by
 obtain ⟨hn, h1, o1, o2⟩ := hr
 obtain ⟨bo, pre, cap, sp, e1, e2, e3, e4⟩ := own_lie o1 hl
 have n := upd_none e3
 refine ⟨bo, pre, cap, sp, e1, o2.get e2, (upd_none n.2).1, n.1, fun mo' hl' => ⟨hn, _, ?_, o2.upd (.inr ⟨_, e2⟩)⟩⟩
 rw [hl']
 exact e4 _ (by simp [hl'])
theorem MkO.exits (hr : MkO g b3 b4 fv vo vx mo mx h) (hl : 0 < mx.length) : ∃ bx pre cap sp, vx = .sl bx pre.length mx.length cap ∧ h bx = some ⟨pre ++ mx.map .bool, sp⟩ ∧ bx ≠ b3 ∧ bx ≠ b4 ∧ ∀ mx', mx'.length = mx.length → MkO g b3 b4 fv vo vx mo mx' (Ab.upd h bx ⟨pre ++ mx'.map .bool, sp⟩) := by
 obtain ⟨hn, h1, o1, o2⟩ := hr
 obtain ⟨bx, pre, cap, sp, e1, e2, e3, e4⟩ := own_lie o2 hl
 have n := upd_none (o1.sub.none e3)
 refine ⟨bx, pre, cap, sp, e1, e2, (upd_none n.2).1, n.1, fun mx' hl' => ⟨hn, _, o1, ?_⟩⟩
 rw [hl']
 exact e4 _ (by simp [hl'])
end
theorem bools_get (pre : List AV) (l : List Bool) (i : Nat) (hi : i < l.length) : (pre ++ l.map AV.bool)[pre.length + i]? = some (AV.bool (l.getD i false)) := by
 rw [List.getElem?_append_right (by omega), Nat.add_sub_cancel_left]
 simp [hi]
theorem bools_set (pre : List AV) (l : List Bool) (i : Nat) (x : Bool) : (pre ++ l.map AV.bool).set (pre.length + i) (AV.bool x) = pre ++ (l.set i x).map AV.bool := by
 rw [List.set_append_right _ _ (by omega), Nat.add_sub_cancel_left, List.map_set]
def Closed (b : IBk) (S : Nat → Prop) : Prop := ∀ j, j < b.ops.length → S j → ∀ u ∈ usesN (b.op j), S u.toNat
structure AskP (b : IBk) (k : Nat) (mo mo' : List Bool) : Prop where
 len : mo'.length = mo.length
 mono : ∀ j, mo.getD j false = true → mo'.getD j false = true
 self : mo'.getD k false = true
 uses : ∀ j, mo'.getD j false = true → mo.getD j false = true ∨ ∀ u ∈ usesN (b.op j), mo'.getD u.toNat false = true
 least : ∀ S, Closed b S → S k → ∀ j, mo'.getD j false = true → mo.getD j false = true ∨ S j
theorem getD_setB (l : List Bool) (i j : Nat) (x : Bool) : (l.set i x).getD j false = if i = j ∧ j < l.length then x else l.getD j false := by
 rw [List.getD_eq_getElem?_getD, List.getElem?_set]
 by_cases e : i = j
 ·subst e
  by_cases hl : i < l.length
  ·rw [if_pos rfl, if_pos hl, if_pos ⟨rfl, hl⟩]; rfl
  ·rw [if_pos rfl, if_neg hl, if_neg (fun c => hl c.2), List.getD_eq_getElem?_getD, List.getElem?_eq_none (by omega)]
 ·rw [if_neg e, if_neg (fun c => e c.1), List.getD_eq_getElem?_getD]
theorem askop_spec {g : Heap} {b3 b4 : Nat} {vo vx : AV} {mx : List Bool} (b : IBk) (hw : b.wf) (hc : b.check = 0) : ∀ (k : Nat) (mo : List Bool) (h : Heap), k < b.ops.length → mo.length = b.ops.length → MkO g b3 b4 (.fn 138 [] [.ptr b3 0, .cp [bkP b] 0, .ptr b4 0]) vo vx mo mx h →
  Spec Tryz.prog G 138 [.int .i64 k, .ptr b3 0, .cp [bkP b] 0, .ptr b4 0] h (fun _ h' => ∃ mo', AskP b k mo mo' ∧ MkO g b3 b4 (.fn 138 [] [.ptr b3 0, .cp [bkP b] 0, .ptr b4 0]) vo vx mo' mx h') := by
 obtain ⟨hops, hexs⟩ := right_parts hc
 obtain ⟨hs1, hs2, hs3⟩ := hw.hs
 intro k
 induction k using Nat.strongRecOn with
 | ind k ih =>
 intro mo h hk hl hr
 obtain ⟨hb3, hb4, _⟩ := hr.at
 obtain ⟨bo, pre, cap, sp, hvo, hbo, n3, n4, put⟩ := hr.ops (by omega)
 rw [hl] at hvo
 subst hvo
 have hget := bools_get pre mo k (by omega)
 have hsetk := bools_set pre mo k true
 have hll : (pre ++ mo.map AV.bool).length = pre.length + mo.length := by simp
 refine Spec.walk C138ok rfl ?_
 cases hm : mo.getD k false with
 | true =>
  rw [hm] at hget
  simp only [push_cast, simprocAttr, hb3, hbo, hl, hk, hget]
  exact ⟨mo, ⟨rfl, fun _ h => h, hm, fun _ h => .inl h, fun _ _ _ _ h => .inl h⟩, hr⟩
 | false =>
  rw [hm] at hget
  have hr1 := put (mo.set k true) (by simp)
  obtain ⟨kb3, kb4, _⟩ := hr1.at
  simp (disch := omega) only [push_cast, simprocAttr, wrap_i64, toNat_ofInt64, Nat.min_eq_left, Int.toNat_of_nonneg, hb3, hbo, hl, hk, hget, hsetk, hll]
  have hO : b.op k = b.ops.getD k IOp.zero := rfl
  have hu : ∀ u ∈ usesN (b.op k), 0 ≤ u ∧ u < k := by
   intro u hu
   have hg := good_of (hops k hk)
   rw [← hO] at hg
   unfold usesN at hu
   split at hu
   ·rename_i c
    obtain ⟨⟨a1, a2, _⟩, c1, c2, _⟩ := hg.1 c
    simp only [List.mem_cons, List.not_mem_nil, or_false] at hu
    rcases hu with rfl | rfl
    ·exact ⟨a1, a2⟩
    ·exact ⟨c1, c2⟩
   ·split at hu
    ·rename_i c
     obtain ⟨a1, a2, _⟩ := hg.2 c
     simp only [List.mem_cons, List.not_mem_nil, or_false] at hu
     subst hu
     exact ⟨a1, a2⟩
    ·simp at hu
  rw [← hO]
  have hul := usesN_len (b.op k)
  refine ⟨by omega, (Uses_spec (b.op k)).to ?_⟩
  simp only [push_cast, simprocAttr]
  have hgs := fun j => getD_setB mo k j true
  generalize hmo1 : mo.set k true = mo1 at *
  have hl1 : mo1.length = b.ops.length := by rw [← hmo1, List.length_set]; exact hl
  generalize hus : usesN (b.op k) = us at *
  refine lpc.rel [3, 23, 24, 25] (fun m ρ h' => ∃ (i : Nat) (mi : List Bool), m = us.length - i ∧ i ≤ us.length ∧ mi.length = b.ops.length ∧ (∀ j, mo1.getD j false = true → mi.getD j false = true) ∧ (∀ t, t < i → mi.getD (us.getD t 0).toNat false = true) ∧
   (∀ j, mi.getD j false = true → mo1.getD j false = true ∨ ∀ u ∈ usesN (b.op j), mi.getD u.toNat false = true) ∧ (∀ S, Closed b S → S k → ∀ j, mi.getD j false = true → mo1.getD j false = true ∨ S j) ∧
   MkO g b3 b4 (.fn 138 [] [.ptr b3 0, .cp [bkP b] 0, .ptr b4 0]) (.sl bo pre.length b.ops.length cap) vx mi mx h' ∧ ρ = [(3, .ptr b4 0), (23, ints us), (24, .int .i64 (us.length : Int)), (25, .int .i64 (i : Int))])
   ⟨_, 0, mo1, rfl, by omega, hl1, fun _ h => h, fun t h => by omega, fun _ h => .inl h, fun _ _ _ _ h => .inl h, hr1, rfl⟩ ?_
  rintro m _ h2 ⟨i, mi, rfl, hi, hli, p1, p2, p3, p4, hri, rfl⟩
  by_cases hi2 : i < us.length
  ·have hmem : us.getD i 0 ∈ us := by rw [List.getD_eq_getElem?_getD, List.getElem?_eq_getElem hi2]; simp
   obtain ⟨u0, u1⟩ := hu _ hmem
   have heq : (us.getD i 0) = ((us.getD i 0).toNat : Int) := by omega
   have hI := ih (us.getD i 0).toNat (by omega) mi h2 (by omega) hli hri
   rw [← heq] at hI
   obtain ⟨_, jb4, _⟩ := hri.at
   simp only [push_cast, simprocAttr, hi2, jb4]
   refine ⟨⟨_, C138ok.hf, rfl, rfl⟩, hI.mono ?_⟩
   rintro _ h6 ⟨mj, ha, hrj⟩
   simp (disch := omega) only [push_cast, simprocAttr, wrap_i64, toNat_ofInt64, Nat.min_eq_left, Int.toNat_of_nonneg]
   refine ⟨_, _, by omega, .refl _, i + 1, mj, rfl, by omega, by rw [ha.len]; exact hli, fun j h => ha.mono j (p1 j h), fun t ht => ?_, fun j hj => ?_, fun S hS hk' j hj => ?_, hrj, rfl⟩
   ·by_cases e : t = i
    ·rw [e]; exact ha.self
    ·exact ha.mono _ (p2 t (by omega))
   ·rcases ha.uses j hj with h | h
    ·rcases p3 j h with h | h
     ·exact .inl h
     ·exact .inr fun u hu => ha.mono _ (h u hu)
    ·exact .inr h
   ·rcases ha.least S hS (hS k hk hk' _ (by rw [hus]; exact hmem)) j hj with h | h
    ·exact p4 S hS hk' j h
    ·exact .inr h
  ·obtain rfl : i = us.length := by omega
   simp only [push_cast, simprocAttr, hi2]
   have hk1 : mo1.getD k false = true := by rw [hgs, if_pos ⟨rfl, by omega⟩]
   have hsub : ∀ j, mo1.getD j false = true → mo.getD j false = true ∨ j = k := fun j h => by
    rw [hgs] at h
    by_cases e : k = j
    ·exact .inr e.symm
    ·rw [if_neg (fun c => e c.1)] at h; exact .inl h
   have hall : ∀ u ∈ us, mi.getD u.toNat false = true := by
    intro u hu
    obtain ⟨t, ht, rfl⟩ := List.getElem_of_mem hu
    have := p2 t ht
    rw [show us.getD t 0 = us[t] by simp [ht]] at this
    exact this
   refine ⟨mi, ⟨by rw [hli, hl], fun j h => p1 j ?_, p1 k hk1, fun j hj => ?_, fun S hS hk' j hj => ?_⟩, hri⟩
   ·rw [hgs]; split
    ·rfl
    ·exact h
   ·rcases p3 j hj with h | h
    ·rcases hsub j h with h | rfl
     ·exact .inl h
     ·exact .inr (by rw [hus]; exact hall)
    ·exact .inr h
   ·rcases p4 S hS hk' j hj with h | h
    ·rcases hsub j h with h | rfl
     ·exact .inl h
     ·exact .inr hk'
    ·exact .inr h
end Go.Ab
end
section
namespace Go.Ab
open Go.Proofs
variable {G : Glo} {h : Heap}
theorem own_spec (b : IBk) (v : IVl) (h0 : 0 ≤ v.val) (h1 : v.val < b.ops.length) : Spec Tryz.prog G 140 [bkP b, .agg v.cells] h (Is (.bool (ownV b v)) h) := by
 have q : v.val.toNat < b.ops.length := by omega
 have hO : ownV b v = (decide ((b.ops.getD v.val.toNat IOp.zero).code = 1) && decide (((b.ops.getD v.val.toNat IOp.zero).imm.toNat : Int) = v.reg)) := rfl
 rw [hO]
 refine Spec.is C140ok rfl ?_
 generalize hg : b.ops.getD v.val.toNat IOp.zero = o
 have hw : IntKind.i64.wrap (o.imm.toNat : Int) = o.imm.toNat := wrap_i64 (by omega) (by omega)
 simp (disch := omega) only [push_cast, simprocAttr, wrap_i64, toNat_ofInt64, Nat.min_eq_left, Int.toNat_of_nonneg, h0, h1, q, hg]
 intro c hc
 by_cases c1 : o.code = 1
 ·simp only [push_cast, simprocAttr, c1, hw]
  exact ⟨rfl, sub_upd hc (.refl _)⟩
 ·simp only [push_cast, simprocAttr, c1]
  exact ⟨by rw [show (o.code == 1) = false from by simpa using c1]; rfl, sub_upd hc (.refl _)⟩
structure ExP (b : IBk) (n : Nat) (mo mo' : List Bool) : Prop where
 len : mo'.length = mo.length
 mono : ∀ j, mo.getD j false = true → mo'.getD j false = true
 to : (b.ex n).to ≠ -1 → mo'.getD (b.ex n).to.toNat false = true
 map : ∀ v ∈ (b.ex n).map, ownV b v = false → mo'.getD v.val.toNat false = true
 uses : ∀ j, mo'.getD j false = true → mo.getD j false = true ∨ ∀ u ∈ usesN (b.op j), mo'.getD u.toNat false = true
 least : ∀ S, Closed b S → ((b.ex n).to ≠ -1 → S (b.ex n).to.toNat) → (∀ v ∈ (b.ex n).map, ownV b v = false → S v.val.toNat) → ∀ j, mo'.getD j false = true → mo.getD j false = true ∨ S j
abbrev opFn (b : IBk) (b3 b4 : Nat) : AV := .fn 138 [] [.ptr b3 0, .cp [bkP b] 0, .ptr b4 0]
theorem askex_spec {g : Heap} {b3 b4 : Nat} {vo vx : AV} {mx mo : List Bool} (b : IBk) (hw : b.wf) (hc : b.check = 0) {n j0 : Nat} (hx : b.exit n j0 = true) (hl : mo.length = b.ops.length) (hlx : mx.length = b.exits.length) (hr : MkO g b3 b4 (opFn b b3 b4) vo vx mo mx h) :
  Spec Tryz.prog G 139 [.int .i64 n, .ptr b3 0, .cp [bkP b] 0, .ptr b4 0] h (fun _ h' => ∃ mo', ExP b n mo mo' ∧ MkO g b3 b4 (opFn b b3 b4) vo vx mo' (mx.set n true) h') := by
 obtain ⟨hops, hexs⟩ := right_parts hc
 obtain ⟨hs1, hs2, hs3⟩ := hw.hs
 obtain ⟨⟨_, hn⟩, hto, hmap⟩ := exit_parts hx
 have hn' : n < b.exits.length := by omega
 have hex : b.ex ((n : Int)).toNat = b.exits.getD n IEx.zero := rfl
 have hex2 : b.ex n = b.exits.getD n IEx.zero := rfl
 rw [hex] at hto hmap
 have hml := getD_map (n := n) hs3
 have hvin : ∀ x, vin b.ops j0 x → 0 ≤ x ∧ x.toNat < b.ops.length := fun x ⟨a, _, c, _⟩ => ⟨a, by omega⟩
 obtain ⟨hb3, hb4, _⟩ := hr.at
 obtain ⟨bx, pre, cap, sp, hvx, hbx, n3, n4, put⟩ := hr.exits (by omega)
 rw [hlx] at hvx
 subst hvx
 have hsetn := bools_set pre mx n true
 have hll : (pre ++ mx.map AV.bool).length = pre.length + mx.length := by simp
 have hr1 := put (mx.set n true) (by simp)
 obtain ⟨kb3, kb4, _⟩ := hr1.at
 have tail : ∀ (e : IEx) (mo1 : List Bool) (h1 : Heap), b.exits.getD n IEx.zero = e → mo1.length = b.ops.length → MkO g b3 b4 (opFn b b3 b4) vo (.sl bx pre.length b.exits.length cap) mo1 (mx.set n true) h1 → (∀ j, mo.getD j false = true → mo1.getD j false = true) → (e.to ≠ -1 → mo1.getD e.to.toNat false = true) →
   (∀ j, mo1.getD j false = true → mo.getD j false = true ∨ ∀ u ∈ usesN (b.op j), mo1.getD u.toNat false = true) → (∀ S, Closed b S → (e.to ≠ -1 → S e.to.toNat) → ∀ j, mo1.getD j false = true → mo.getD j false = true ∨ S j) →
   wpc Tryz.prog G Tryz.f139.ntmps C139_23 (retQ C139r (fun _ h' => ∃ mo', ExP b n mo mo' ∧ MkO g b3 b4 (opFn b b3 b4) vo (.sl bx pre.length b.exits.length cap) mo' (mx.set n true) h')) [(2, .cp [bkP b] 0), (3, .ptr b4 0), (5, .cp e.cells 0)] h1 := by
  intro e mo1 h1 he hl1 hr1 p1 p2 p3 p4
  rw [he] at hmap hml
  have hem : ∀ v ∈ e.map, 0 ≤ v.val ∧ v.val < b.ops.length := fun v hv => by have := hvin _ (hmap v hv); omega
  simp only [push_cast, simprocAttr]
  refine lpc.rel [2, 3, 27, 28, 29] (fun m ρ h' => ∃ (i : Nat) (mi : List Bool), m = e.map.length - i ∧ i ≤ e.map.length ∧ mi.length = b.ops.length ∧ (∀ j, mo.getD j false = true → mi.getD j false = true) ∧ (e.to ≠ -1 → mi.getD e.to.toNat false = true) ∧
   (∀ t, t < i → ownV b (e.map.getD t IVl.zero) = false → mi.getD (e.map.getD t IVl.zero).val.toNat false = true) ∧
   (∀ j, mi.getD j false = true → mo.getD j false = true ∨ ∀ u ∈ usesN (b.op j), mi.getD u.toNat false = true) ∧ (∀ S, Closed b S → (e.to ≠ -1 → S e.to.toNat) → (∀ v ∈ e.map, ownV b v = false → S v.val.toNat) → ∀ j, mi.getD j false = true → mo.getD j false = true ∨ S j) ∧
   MkO g b3 b4 (opFn b b3 b4) vo (.sl bx pre.length b.exits.length cap) mi (mx.set n true) h' ∧ ρ = [(2, .cp [bkP b] 0), (3, .ptr b4 0), (27, vls e.map), (28, .int .i64 (e.map.length : Int)), (29, .int .i64 (i : Int))])
   ⟨_, 0, mo1, rfl, by omega, hl1, p1, p2, fun t h => by omega, p3, fun S a b _ => p4 S a b, hr1, rfl⟩ ?_
  rintro m _ h2 ⟨i, mi, rfl, hi, hli, q1, q2, q3, q4, q5, hri, rfl⟩
  by_cases hi2 : i < e.map.length
  ·have hmem : e.map.getD i IVl.zero ∈ e.map := by rw [List.getD_eq_getElem?_getD, List.getElem?_eq_getElem hi2]; simp
   obtain ⟨u0, u1⟩ := hem _ hmem
   obtain ⟨_, jb4, _⟩ := hri.at
   generalize hv : e.map.getD i IVl.zero = v at *
   simp only [push_cast, simprocAttr, hi2, hv]
   intro c' hc'
   rw [era_none hc']
   refine (own_spec b v u0 u1).to ?_
   cases ho : ownV b v with
   | true =>
    simp (disch := omega) only [push_cast, simprocAttr, wrap_i64, toNat_ofInt64, Nat.min_eq_left, Int.toNat_of_nonneg]
    refine ⟨_, _, by omega, .refl _, i + 1, mi, rfl, by omega, hli, q1, q2, fun t ht hf => ?_, q4, q5, hri, rfl⟩
    by_cases et : t = i
    ·rw [et, hv, ho] at hf; cases hf
    ·exact q3 t (by omega) hf
   | false =>
    have heq : v.val = (v.val.toNat : Int) := by omega
    have hI := askop_spec (G := G) b hw hc v.val.toNat mi h2 (by omega) hli hri
    rw [← heq] at hI
    simp only [push_cast, simprocAttr, jb4]
    refine ⟨⟨_, C138ok.hf, rfl, rfl⟩, hI.mono ?_⟩
    rintro _ h6 ⟨mj, ha, hrj⟩
    simp (disch := omega) only [push_cast, simprocAttr, wrap_i64, toNat_ofInt64, Nat.min_eq_left, Int.toNat_of_nonneg]
    refine ⟨_, _, by omega, .refl _, i + 1, mj, rfl, by omega, by rw [ha.len]; exact hli, fun j h => ha.mono j (q1 j h), fun h => ha.mono _ (q2 h), fun t ht hf => ?_, fun j hj => ?_, fun S hS h1 h2 j hj => ?_, hrj, rfl⟩
    ·by_cases et : t = i
     ·rw [et, hv]; exact ha.self
     ·exact ha.mono _ (q3 t (by omega) hf)
    ·rcases ha.uses j hj with h | h
     ·rcases q4 j h with h | h
      ·exact .inl h
      ·exact .inr fun u hu => ha.mono _ (h u hu)
     ·exact .inr h
    ·rcases ha.least S hS (h2 v hmem ho) j hj with h | h
     ·exact q5 S hS h1 h2 j h
     ·exact .inr h
  ·obtain rfl : i = e.map.length := by omega
   simp only [push_cast, simprocAttr, hi2]
   have he2 : b.ex n = e := by rw [hex2, he]
   refine ⟨mi, ⟨by rw [hli, hl], q1, by rw [he2]; exact q2, ?_, q4, by rw [he2]; exact q5⟩, hri⟩
   rw [he2]
   intro v hv ho
   obtain ⟨t, ht, rfl⟩ := List.getElem_of_mem hv
   have e1 : e.map.getD t IVl.zero = e.map[t] := by simp [ht]
   have := q3 t ht (by rw [e1]; exact ho)
   rw [e1] at this
   exact this
 refine Spec.walk C139ok rfl ?_
 show wpc _ _ _ (.seq [0, 2, 3] C139_0 (.seq [2, 3, 5] C139_1 (.fz 5 (.seq [2, 3, 5] C139_5 C139_23)))) _ _ _
 generalize C139_23 = Z at tail ⊢
 generalize he : b.exits.getD n IEx.zero = e at *
 have tail := tail e
 simp (disch := omega) only [push_cast, simprocAttr, wrap_i64, toNat_ofInt64, Nat.min_eq_left, Int.toNat_of_nonneg, hb3, hbx, hlx, hn', hsetn, hll, he]
 refine ⟨by omega, fun c' hc' => ?_⟩
 rw [era_none hc']
 by_cases ht : e.to = -1
 ·simp only [push_cast, simprocAttr, ht]
  exact tail mo _ rfl hl hr1 (fun _ h => h) (fun h => absurd ht h) (fun _ h => .inl h) (fun _ _ _ _ h => .inl h)
 ·obtain ⟨t0, t1⟩ := hvin _ (hto.resolve_left ht)
  have heq : e.to = (e.to.toNat : Int) := by omega
  have hI := askop_spec (G := G) b hw hc e.to.toNat mo _ t1 hl hr1
  rw [← heq] at hI
  simp only [push_cast, simprocAttr, ht, kb4]
  refine ⟨⟨_, C138ok.hf, rfl, rfl⟩, hI.mono ?_⟩
  rintro _ h6 ⟨mj, ha, hrj⟩
  simp only [push_cast, simprocAttr]
  exact tail mj _ rfl (by rw [ha.len]; exact hl) hrj ha.mono (fun _ => ha.self) ha.uses (fun S hS h1 j hj => ha.least S hS (h1 ht) j hj)
end Go.Ab
end
section
namespace Go.Ab
open Go.Proofs
variable {G : Glo} {h : Heap}
structure OkS (b : IBk) (S : Nat → Prop) : Prop where
 closed : Closed b S
 acts : ∀ k, k < b.ops.length → 4 ≤ (b.op k).code → S k
 to : ∀ n, n < b.exits.length → namedX b.ops b.last n = true → (b.ex n).to ≠ -1 → S (b.ex n).to.toNat
 map : ∀ n, n < b.exits.length → namedX b.ops b.last n = true → ∀ v ∈ (b.ex n).map, ownV b v = false → S v.val.toNat
noncomputable def askN (b : IBk) (k : Nat) : Bool := @decide (∀ S, OkS b S → S k) (Classical.propDecidable _)
theorem askN_iff (b : IBk) (k : Nat) : askN b k = true ↔ ∀ S, OkS b S → S k := by unfold askN; exact @decide_eq_true_iff _ (Classical.propDecidable _)
structure AskI (b : IBk) (nm ac : Nat → Bool) (mo mx : List Bool) : Prop where
 lo : mo.length = b.ops.length
 lx : mx.length = b.exits.length
 mx : ∀ n, n < b.exits.length → mx.getD n false = nm n
 closed : ∀ j, mo.getD j false = true → ∀ u ∈ usesN (b.op j), mo.getD u.toNat false = true
 acts : ∀ k, ac k = true → mo.getD k false = true
 to : ∀ n, n < b.exits.length → nm n = true → (b.ex n).to ≠ -1 → mo.getD (b.ex n).to.toNat false = true
 map : ∀ n, n < b.exits.length → nm n = true → ∀ v ∈ (b.ex n).map, ownV b v = false → mo.getD v.val.toNat false = true
 least : ∀ S, OkS b S → ∀ j, mo.getD j false = true → S j
section
variable {b : IBk} {nm ac : Nat → Bool} {mo mx mj : List Bool}
theorem AskI.exit (hI : AskI b nm ac mo mx) {n : Nat} (hn : n < b.exits.length) (hm : namedX b.ops b.last n = true) (hp : ExP b n mo mj) : AskI b (fun i => nm i || decide (i = n)) ac mj (mx.set n true) := by
 refine ⟨by rw [hp.len]; exact hI.lo, by rw [List.length_set]; exact hI.lx, fun i hi => ?_, fun j hj => ?_, fun k hk => hp.mono _ (hI.acts k hk), fun i hi hni h => ?_, fun i hi hni v hv ho => ?_, fun S hS j hj => ?_⟩
 ·rw [getD_setB]
  by_cases e : n = i
  ·subst e; rw [if_pos ⟨rfl, by rw [hI.lx]; exact hi⟩]; simp
  ·rw [if_neg (fun c => e c.1), hI.mx i hi, decide_eq_false (fun c => e c.symm), Bool.or_false]
 ·rcases hp.uses j hj with h | h
  ·exact fun u hu => hp.mono _ (hI.closed j h u hu)
  ·exact h
 ·by_cases e : i = n
  ·subst e; exact hp.to h
  ·rw [decide_eq_false e, Bool.or_false] at hni
   exact hp.mono _ (hI.to i hi hni h)
 ·by_cases e : i = n
  ·subst e; exact hp.map v hv ho
  ·rw [decide_eq_false e, Bool.or_false] at hni
   exact hp.mono _ (hI.map i hi hni v hv ho)
 ·rcases hp.least S hS.closed (hS.to n hn hm) (hS.map n hn hm) j hj with h | h
  ·exact hI.least S hS j h
  ·exact h
theorem AskI.op (hI : AskI b nm ac mo mx) {k : Nat} (hk : k < b.ops.length) (h4 : 4 ≤ (b.op k).code) (hp : AskP b k mo mj) : AskI b nm (fun i => ac i || decide (i = k)) mj mx := by
 refine ⟨by rw [hp.len]; exact hI.lo, hI.lx, hI.mx, fun j hj => ?_, fun i hi => ?_, fun i hi hni h => hp.mono _ (hI.to i hi hni h), fun i hi hni v hv ho => hp.mono _ (hI.map i hi hni v hv ho), fun S hS j hj => ?_⟩
 ·rcases hp.uses j hj with h | h
  ·exact fun u hu => hp.mono _ (hI.closed j h u hu)
  ·exact h
 ·by_cases e : i = k
  ·subst e; exact hp.self
  ·simp only [decide_eq_false e, Bool.or_false] at hi
   exact hp.mono _ (hI.acts i hi)
 ·rcases hp.least S hS.closed (hS.acts k hk h4) j hj with h | h
  ·exact hI.least S hS j h
  ·exact h
theorem AskI.congr (hI : AskI b nm ac mo mx) {nm' ac' : Nat → Bool} (h1 : ∀ n, n < b.exits.length → nm' n = nm n) (h2 : ∀ k, ac' k = true → ac k = true) : AskI b nm' ac' mo mx :=
 ⟨hI.lo, hI.lx, fun n hn => by rw [h1 n hn]; exact hI.mx n hn, hI.closed, fun k hk => hI.acts k (h2 k hk), fun n hn h => hI.to n hn (by rw [← h1 n hn]; exact h), fun n hn h => hI.map n hn (by rw [← h1 n hn]; exact h), hI.least⟩
theorem AskI.done (hI : AskI b (namedX b.ops b.last) ac mo mx) (h4 : ∀ k, k < b.ops.length → 4 ≤ (b.op k).code → ac k = true) : mo = (List.range b.ops.length).map (askN b) ∧ mx = (List.range b.exits.length).map (namedX b.ops b.last) := by
 have hS : OkS b (fun k => mo.getD k false = true) := ⟨fun j _ hj u hu => hI.closed j hj u hu, fun k hk hc => hI.acts k (h4 k hk hc), hI.to, hI.map⟩
 refine ⟨List.ext_getElem (by simp [hI.lo]) fun i h1 h2 => ?_, List.ext_getElem (by simp [hI.lx]) fun i h1 h2 => ?_⟩
 ·have e : mo[i] = mo.getD i false := by simp [h1]
  rw [e, List.getElem_map, List.getElem_range, Bool.eq_iff_iff, askN_iff]
  exact ⟨fun h S hS' => hI.least S hS' i h, fun h => h _ hS⟩
 ·have e : mx[i] = mx.getD i false := by simp [h1]
  rw [e, List.getElem_map, List.getElem_range]
  exact hI.mx i (by rw [← hI.lx]; exact h1)
end
theorem askN_ok (b : IBk) (hc : b.check = 0) : KpOk b (askN b) := by
 have hin : ∀ k, k < b.ops.length → askN b k = true → ∀ u ∈ usesN (b.op k), askN b u.toNat = true := by
  intro k hk h u hu
  rw [askN_iff] at h ⊢
  exact fun S hS => hS.closed k hk (h S hS) u hu
 have hkd := fun k hk => kind_of ((right_parts hc).1 k hk)
 have hco : ∀ k, k < b.ops.length → (b.op k).code ≤ 6 := by
  intro k hk
  have := hkd k hk
  change kindN (b.op k) = true at this
  unfold kindN at this
  simp only at this
  (repeat' split at this) <;> first | omega | (cases this)
 refine ⟨fun k hk h4 => (askN_iff b k).2 fun S hS => hS.acts k hk h4, fun n hn hm h => (askN_iff b _).2 fun S hS => hS.to n hn hm h, fun n hn hm v hv ho => (askN_iff b _).2 fun S hS => hS.map n hn hm v hv ho, fun k hk h h3 => ?_, fun k hk h h3 => ?_⟩
 ·refine hin k hk h _ ?_
  unfold usesN
  by_cases c : (b.op k).code = 3 ∨ (b.op k).code = 5 ∨ (b.op k).code = 6
  ·rw [if_pos c]; simp
  ·have := hco k hk
   rw [if_neg c, if_pos (by omega)]; simp
 ·refine hin k hk h _ ?_
  have := hco k hk
  unfold usesN
  rw [if_pos (by omega)]; simp
abbrev exFn (b : IBk) (b3 b4 : Nat) : AV := .fn 139 [] [.ptr b3 0, .cp [bkP b] 0, .ptr b4 0]
theorem askend_spec {g : Heap} {b2 b3 b4 : Nat} {vo vx v32 : AV} {n33 n34 : Int} {nm ac : Nat → Bool} {mo mx : List Bool} {Q : Exit → Env → Heap → Prop} (b : IBk) (hw : b.wf) (hc : b.check = 0) {k : Nat} (hk : k < b.ops.length) (h4 : 4 ≤ (b.op k).code) (hx : b.exit (b.op k).x k = true) (hI : AskI b nm ac mo mx) (hr : MkO g b3 b4 (opFn b b3 b4) vo vx mo mx h)
  (hq : ∀ ρ mj h', lk ρ 2 = .ptr b2 0 → lk ρ 3 = .ptr b3 0 → lk ρ 4 = .ptr b4 0 → lk ρ 5 = exFn b b3 b4 → lk ρ 32 = v32 → lk ρ 33 = .int .i64 n33 → lk ρ 34 = .int .i64 n34 → AskI b (fun i => nm i || decide (i = (b.op k).x.toNat)) (fun i => ac i || decide (i = k)) mj (mx.set (b.op k).x.toNat true) → MkO g b3 b4 (opFn b b3 b4) vo vx mj (mx.set (b.op k).x.toNat true) h' → Q (.exit 2) ρ h') :
  wpc Tryz.prog G Tryz.f108.ntmps C108_29 Q [(2, .ptr b2 0), (3, .ptr b3 0), (4, .ptr b4 0), (5, exFn b b3 b4), (6, .int .i64 k), (7, .cp (b.op k).cells 0), (32, v32), (33, .int .i64 n33), (34, .int .i64 n34)] h := by
 obtain ⟨⟨x0, x1⟩, _, _⟩ := exit_parts hx
 have heq : (b.op k).x = ((b.op k).x.toNat : Int) := by omega
 have hxn : namedX b.ops b.last (b.op k).x.toNat = true := takes_named (o := b.op k) (by show b.ops.getD k IOp.zero ∈ b.ops; rw [List.getD_eq_getElem?_getD, List.getElem?_eq_getElem hk]; simp) (.inl ⟨h4, rfl⟩) x0
 have hE := askex_spec (G := G) (mo := mo) (mx := mx) b hw hc (n := (b.op k).x.toNat) (j0 := k) (by rw [← heq]; exact hx) hI.lo hI.lx hr
 rw [← heq] at hE
 have hop : ∀ nm mo mx mj, AskI b nm ac mo mx → AskP b k mo mj → AskI b nm (fun i => ac i || decide (i = k)) mj mx := fun _ _ _ _ a p => a.op hk h4 p
 generalize b.op k = o at *
 simp only [push_cast, simprocAttr]
 refine ⟨⟨_, C139ok.hf, rfl, rfl⟩, hE.mono ?_⟩
 rintro _ h3 ⟨mj, hp, hrj⟩
 have hI2 := hI.exit (by omega) hxn hp
 obtain ⟨_, jb4, _⟩ := hrj.at
 simp only [push_cast, simprocAttr, jb4]
 refine ⟨⟨_, C138ok.hf, rfl, rfl⟩, (askop_spec (G := G) b hw hc k mj h3 hk hI2.lo hrj).mono ?_⟩
 rintro _ h6 ⟨ml, ha, hrl⟩
 simp only [push_cast, simprocAttr]
 exact hq _ ml _ rfl rfl rfl rfl rfl rfl rfl (hop _ _ _ _ hI2 ha) hrl
theorem fresh1 {h : Heap} {a e : Nat} {A : Blk} (k : Ab.upd h a A e = none) : e ≠ a ∧ h e = none := upd_none k
theorem fresh2 {h : Heap} {a b e : Nat} {A B : Blk} (k : Ab.upd (Ab.upd h a A) b B e = none) : e ≠ b ∧ e ≠ a ∧ h e = none := ⟨(upd_none k).1, fresh1 (upd_none k).2⟩
theorem fresh3 {h : Heap} {a b c e : Nat} {A B C : Blk} (k : Ab.upd (Ab.upd (Ab.upd h a A) b B) c C e = none) : e ≠ c ∧ e ≠ b ∧ e ≠ a ∧ h e = none := ⟨(upd_none k).1, fresh2 (upd_none k).2⟩
theorem fresh4 {h : Heap} {a b c d e : Nat} {A B C D : Blk} (k : Ab.upd (Ab.upd (Ab.upd (Ab.upd h a A) b B) c C) d D e = none) : e ≠ d ∧ e ≠ c ∧ e ≠ b ∧ e ≠ a ∧ h e = none := ⟨(upd_none k).1, fresh3 (upd_none k).2⟩
theorem fresh5 {h : Heap} {a b c d f e : Nat} {A B C D F : Blk} (k : Ab.upd (Ab.upd (Ab.upd (Ab.upd (Ab.upd h a A) b B) c C) d D) f F e = none) : e ≠ f ∧ e ≠ d ∧ e ≠ c ∧ e ≠ b ∧ e ≠ a ∧ h e = none := ⟨(upd_none k).1, fresh4 (upd_none k).2⟩
theorem MkO.upd {g : Heap} {b3 b4 : Nat} {fv vo vx : AV} {mo mx : List Bool} (hr : MkO g b3 b4 fv vo vx mo mx h) {b : Nat} {x y : Blk} (hb : g b = some y) (n3 : b ≠ b3) (n4 : b ≠ b4) : MkO (Ab.upd g b x) b3 b4 fv vo vx mo mx (Ab.upd h b x) := by
 obtain ⟨hn, h1, o1, o2⟩ := hr
 have k0 : (Ab.upd (Ab.upd g b3 ⟨[vo, vx], 0⟩) b4 ⟨[fv], 0⟩) b = some y := by rw [upd_ne n4, upd_ne n3]; exact hb
 have e : Ab.upd (Ab.upd (Ab.upd g b x) b3 ⟨[vo, vx], 0⟩) b4 ⟨[fv], 0⟩ = Ab.upd (Ab.upd (Ab.upd g b3 ⟨[vo, vx], 0⟩) b4 ⟨[fv], 0⟩) b x := by
  rw [upd_comm (h := Ab.upd g b3 ⟨[vo, vx], 0⟩) (Ne.symm n4), upd_comm (h := g) (Ne.symm n3)]
 refine ⟨hn, _, ?_, o2.upd (.inr ⟨_, o1.get k0⟩)⟩
 rw [e]
 exact o1.upd (.inr ⟨_, k0⟩)
theorem Le.aggF {sz n i : Nat} {g h : Heap} {v : AV} {cells L : List AV} (ho : Own sz g v cells n h) (hi : L[i]? = some v) : Le (.agg L) h (.agg (L.set i (.ro cells n))) g := by
 intro w u hw hr
 obtain ⟨cs, rfl, hl, h1, hr1⟩ := rep_agg hr
 obtain ⟨l1, l2⟩ := hrep_less hw ho.sub
 refine ⟨l1, .agg _ _ (by simpa using hl) h1 fun j u c e1 e2 => ?_, fun d hd => ho.sub.none hd⟩
 rw [List.getElem?_set] at e1
 split at e1
 ·rename_i hij
  subst hij
  split at e1
  ·cases e1
   exact (ho.freeze w c hw (hr1 i _ c hi e2)).2.1
  ·cases e1
 ·exact (hr1 j u c e1 e2).keep l2.keeps
theorem dasked_spec (b : IBk) (hw : b.wf) (hc : b.check = 0) : Spec Tryz.prog G 108 [bkP b] h (Is (.agg [.ro (((List.range b.ops.length).map (askN b)).map .bool) b.ops.length, .ro (((List.range b.exits.length).map (namedX b.ops b.last)).map .bool) b.exits.length]) h) := by
 obtain ⟨hops, hexs⟩ := right_parts hc
 obtain ⟨hs1, hs2, hs3⟩ := hw.hs
 have hlast : b.exit b.last b.ops.length = true := by
  have := chk_right hc
  simp only [IBk.right, Bool.and_eq_true] at this
  exact this.2
 refine Spec.weak (Q := fun r h' => ∃ g b3 b4 vo vx, r = .agg [vo, vx] ∧ Sub h g ∧ g b3 = none ∧ g b4 = none ∧ MkO g b3 b4 (opFn b b3 b4) vo vx ((List.range b.ops.length).map (askN b)) ((List.range b.exits.length).map (namedX b.ops b.last)) h') ?_ ?_
 ·refine Spec.walk C108ok rfl ?_
  have fin : ∀ b2 b3 b4 g H vo vx, h b2 = none → b2 ≠ b3 → b2 ≠ b4 → g b2 = some ⟨[.nils, .nils], 0⟩ → Sub h g → g b3 = none → g b4 = none → MkO g b3 b4 (opFn b b3 b4) vo vx (List.replicate b.ops.length false) (List.replicate b.exits.length false) H →
    wpc Tryz.prog G Tryz.f108.ntmps C108_47 (retQ C108r (fun r h' => ∃ g b3 b4 vo vx, r = .agg [vo, vx] ∧ Sub h g ∧ g b3 = none ∧ g b4 = none ∧ MkO g b3 b4 (opFn b b3 b4) vo vx ((List.range b.ops.length).map (askN b)) ((List.range b.exits.length).map (namedX b.ops b.last)) h')) [(1, .cp [bkP b] 0), (2, .ptr b2 0), (3, .ptr b3 0), (4, .ptr b4 0)] H := by
   intro b2 b3 b4 g H vo vx h20 n23 n24 hb2 hs hg3 hg4 hr
   have h2of : ∀ {mo mx H}, MkO g b3 b4 (opFn b b3 b4) vo vx mo mx H → H b2 = some ⟨[.nils, .nils], 0⟩ := fun hr => hr.at.2.2 b2 _ (by rw [upd_ne n24, upd_ne n23]; exact hb2)
   have hA := fun v32 n33 n34 nm ac mo mx Q k h a1 a2 a3 a4 a5 a6 => askend_spec (G := G) (g := g) (b2 := b2) (b3 := b3) (b4 := b4) (vo := vo) (vx := vx) (v32 := v32) (n33 := n33) (n34 := n34) (nm := nm) (ac := ac) (mo := mo) (mx := mx) (Q := Q) (k := k) (h := h) b hw hc a1 a2 a3 a4 a5 a6
   obtain ⟨⟨l0, l1⟩, _, _⟩ := exit_parts hlast
   have hI0 : AskI b (fun _ => false) (fun _ => false) (List.replicate b.ops.length false) (List.replicate b.exits.length false) := by
    have hf : ∀ n j, ¬ ((List.replicate n false).getD j false = true) := fun n j h => by
     rw [List.getD_eq_getElem?_getD, List.getElem?_replicate] at h; split at h <;> simp at h
    exact ⟨by simp, by simp, fun n hn => by have := hf b.exits.length n; simpa using this, fun j h => absurd h (hf _ _), fun _ h => (by cases h), fun _ _ h => (by cases h), fun _ _ h => (by cases h), fun _ _ j h => absurd h (hf _ _)⟩
   have heq : b.last = (b.last.toNat : Int) := by omega
   have hE := askex_spec (G := G) b hw hc (n := b.last.toNat) (j0 := b.ops.length) (by rw [← heq]; exact hlast) hI0.lo hI0.lx hr
   rw [← heq] at hE
   show wpc _ _ _ (.seq [1, 2, 3, 4, 5] C108_4 (.seq [1, 2, 3, 4, 5] C108_5 (.seq [2, 3] (.seq [2, 3, 4, 5, 32, 33, 34] C108_6 (.block 0 (.loop (.seq [2, 3, 4, 5, 32, 33, 34, 35] C108_7 (.seq [2, 3, 4, 5, 32, 33, 34] C108_8 (.seq [2, 3, 4, 5, 32, 33, 34] (.block 1 (.seq [2, 3, 4, 5, 6, 7, 32, 33, 34] C108_9 (.fz 7 (.seq [2, 3, 4, 5, 6, 7, 32, 33, 34, 40] C108_10 (.block 2 (.seq [2, 3, 4, 5, 6, 7, 32, 33, 34] C108_25 C108_29)))))) C108_36)))))) C108_44))) _ _ _
   generalize C108_29 = Y at hA ⊢
   simp only [push_cast, simprocAttr]
   refine ⟨⟨_, C139ok.hf, rfl, rfl⟩, hE.mono ?_⟩
   rintro _ h3 ⟨mj, hp, hrj⟩
   have hI1 := hI0.exit (by omega) (by unfold namedX; rw [decide_eq_true heq, Bool.true_or]) hp
   simp only [push_cast, simprocAttr]
   refine lpc.rel [2, 3, 4, 5, 32, 33, 34] (fun m ρ h' => ∃ (i : Nat) (mo mx : List Bool), m = b.ops.length - i ∧ i ≤ b.ops.length ∧ AskI b (namedX (b.ops.take i) b.last) (fun k => decide (k < i ∧ 4 ≤ (b.op k).code)) mo mx ∧ MkO g b3 b4 (opFn b b3 b4) vo vx mo mx h' ∧
    ρ = [(2, .ptr b2 0), (3, .ptr b3 0), (4, .ptr b4 0), (5, exFn b b3 b4), (32, ops b.ops), (33, .int .i64 (b.ops.length : Int)), (34, .int .i64 (i : Int))]) ⟨_, 0, mj, _, rfl, by omega, hI1.congr (fun n _ => ?_) (fun k hk => by simp at hk), hrj, rfl⟩ ?_
   ·unfold namedX
    rw [Bool.eq_iff_iff]; simp; omega
   rintro m _ h4 ⟨i, mo, mx, rfl, hi, hI, hri, rfl⟩
   by_cases hi2 : i < b.ops.length
   ·have hO : b.ops.getD i IOp.zero = b.op i := rfl
    have hmem : b.op i ∈ b.ops := by show b.ops.getD i IOp.zero ∈ b.ops; rw [List.getD_eq_getElem?_getD, List.getElem?_eq_getElem hi2]; simp
    have htk : b.ops.take (i + 1) = b.ops.take i ++ [b.op i] := by
     rw [List.take_add_one, ← hO]; simp [hi2]
    have hnm := fun n => named_snoc (b.ops.take i) (b.op i) b.last n
    rw [← htk] at hnm
    have hxs := fun x (h : takes (b.op i) x) => opR_takes (hops i hi2) (x := x) h
    have hac : ∀ k, decide (k < i + 1 ∧ 4 ≤ (b.op k).code) = true → (decide (k < i ∧ 4 ≤ (b.op k).code) || decide (k = i)) = true := by
     intro k hk
     simp only [decide_eq_true_eq, Bool.or_eq_true] at hk ⊢
     omega
    have hac0 : ¬ 4 ≤ (b.op i).code → ∀ k, decide (k < i + 1 ∧ 4 ≤ (b.op k).code) = true → decide (k < i ∧ 4 ≤ (b.op k).code) = true := by
     intro h k hk
     simp only [decide_eq_true_eq] at hk ⊢
     refine ⟨?_, hk.2⟩
     have : k ≠ i := fun e => h (by rw [← e]; exact hk.2)
     omega
    obtain ⟨_, jb4, _⟩ := hri.at
    have fin3 : ∀ {nm mo mx H} {R : Nat → Env → Heap → Prop}, 4 ≤ (b.op i).code → AskI b nm (fun k => decide (k < i ∧ 4 ≤ (b.op k).code)) mo mx → MkO g b3 b4 (opFn b b3 b4) vo vx mo mx H → (∀ n, n < b.exits.length → namedX (b.ops.take (i + 1)) b.last n = (nm n || decide (n = (b.op i).x.toNat))) → ∀ Q : Exit → Env → Heap → Prop, (∀ ρ mj mx' h', lk ρ 2 = .ptr b2 0 → lk ρ 3 = .ptr b3 0 → lk ρ 4 = .ptr b4 0 → lk ρ 5 = exFn b b3 b4 → lk ρ 32 = ops b.ops → lk ρ 33 = .int .i64 (b.ops.length : Int) → lk ρ 34 = .int .i64 (i : Int) →
      AskI b (namedX (b.ops.take (i + 1)) b.last) (fun k => decide (k < i + 1 ∧ 4 ≤ (b.op k).code)) mj mx' → MkO g b3 b4 (opFn b b3 b4) vo vx mj mx' h' → Q (.exit 2) ρ h') →
      wpc Tryz.prog G Tryz.f108.ntmps Y Q [(2, .ptr b2 0), (3, .ptr b3 0), (4, .ptr b4 0), (5, exFn b b3 b4), (6, .int .i64 i), (7, .cp (b.op i).cells 0), (32, ops b.ops), (33, .int .i64 (b.ops.length : Int)), (34, .int .i64 (i : Int))] H :=
     fun {nm mo mx H R} h4 hI hr hn Q hq => hA _ _ _ nm _ mo mx Q i H hi2 h4 (hxs _ (.inl ⟨h4, rfl⟩)) hI hr fun ρ mj h' e2 e3 e4 e5 e32 e33 e34 hI' hr' => hq ρ mj _ h' e2 e3 e4 e5 e32 e33 e34 (hI'.congr hn hac) hr'
    by_cases c5 : (b.op i).code = 5
    ·obtain ⟨⟨y0, y1⟩, _, _⟩ := exit_parts (hxs _ (.inr ⟨c5, rfl⟩))
     have yeq : (b.op i).y = ((b.op i).y.toNat : Int) := by omega
     have hEy := askex_spec (G := G) b hw hc (n := (b.op i).y.toNat) (j0 := i) (by rw [← yeq]; exact hxs _ (.inr ⟨c5, rfl⟩)) hI.lo hI.lx hri
     rw [← yeq] at hEy
     have hyn := takes_named (l := b.ops) (last := b.last) hmem (.inr ⟨c5, rfl⟩) y0
     simp only [push_cast, simprocAttr, hi2, hO]
     intro c' hc'
     rw [era_none hc']
     simp only [push_cast, simprocAttr, c5]
     refine ⟨⟨_, C139ok.hf, rfl, rfl⟩, hEy.mono ?_⟩
     rintro _ h6 ⟨mk, hp, hrk⟩
     have hIk := hI.exit (by omega) hyn hp
     simp only [push_cast, simprocAttr]
     refine fin3 (R := fun _ _ _ => True) (by omega) hIk hrk (fun n _ => ?_) _ fun ρ mj mx' h' e2 e3 e4 e5 e32 e33 e34 hI' hr' => ?_
     ·rw [hnm n, c5]
      have x0 := (exit_parts (hxs _ (.inl ⟨by omega, rfl⟩))).1.1
      have a1 : decide ((b.op i).x = (n : Int)) = decide (n = (b.op i).x.toNat) := by rw [decide_eq_decide]; omega
      have a2 : decide ((b.op i).y = (n : Int)) = decide (n = (b.op i).y.toNat) := by rw [decide_eq_decide]; omega
      rw [a1, a2]
      cases namedX (b.ops.take i) b.last n <;> cases decide (n = (b.op i).x.toNat) <;> cases decide (n = (b.op i).y.toNat) <;> rfl
     ·simp (disch := omega) only [push_cast, simprocAttr, wrap_i64, toNat_ofInt64, Nat.min_eq_left, Int.toNat_of_nonneg, e2, e3, e4, e5, e32, e33, e34]
      exact ⟨_, _, by omega, .refl _, i + 1, mj, mx', rfl, by omega, hI', hr', rfl⟩
    ·by_cases c46 : (b.op i).code = 4 ∨ (b.op i).code = 6
     ·have x0 := (exit_parts (hxs _ (.inl ⟨by omega, rfl⟩))).1.1
      have hn46 : ∀ n, n < b.exits.length → namedX (b.ops.take (i + 1)) b.last n = (namedX (b.ops.take i) b.last n || decide (n = (b.op i).x.toNat)) := by
       intro n _
       rw [hnm n]
       have a1 : decide ((b.op i).x = (n : Int)) = decide (n = (b.op i).x.toNat) := by rw [decide_eq_decide]; omega
       have a2 : decide (4 ≤ (b.op i).code) = true := decide_eq_true (by omega)
       have a3 : decide ((b.op i).code = 5) = false := decide_eq_false c5
       rw [a1, a2, a3]
       simp
      have fin4 := fin3 (R := fun _ _ _ => True) (by omega) hI hri hn46
      rcases c46 with c | c
      ·simp only [push_cast, simprocAttr, hi2, hO]
       intro c' hc'
       rw [era_none hc']
       simp only [push_cast, simprocAttr, c]
       refine fin4 _ fun ρ mj mx' h' e2 e3 e4 e5 e32 e33 e34 hI' hr' => ?_
       simp (disch := omega) only [push_cast, simprocAttr, wrap_i64, toNat_ofInt64, Nat.min_eq_left, Int.toNat_of_nonneg, e2, e3, e4, e5, e32, e33, e34]
       exact ⟨_, _, by omega, .refl _, i + 1, mj, mx', rfl, by omega, hI', hr', rfl⟩
      ·simp only [push_cast, simprocAttr, hi2, hO]
       intro c' hc'
       rw [era_none hc']
       simp only [push_cast, simprocAttr, c]
       refine fin4 _ fun ρ mj mx' h' e2 e3 e4 e5 e32 e33 e34 hI' hr' => ?_
       simp (disch := omega) only [push_cast, simprocAttr, wrap_i64, toNat_ofInt64, Nat.min_eq_left, Int.toNat_of_nonneg, e2, e3, e4, e5, e32, e33, e34]
       exact ⟨_, _, by omega, .refl _, i + 1, mj, mx', rfl, by omega, hI', hr', rfl⟩
     ·have hk6 := kind_of (hops i hi2)
      have d4 : ¬ (b.op i).code = 4 := fun e => c46 (.inl e)
      have d6 : ¬ (b.op i).code = 6 := fun e => c46 (.inr e)
      have h4 : ¬ 4 ≤ (b.op i).code := by
       change kindN (b.op i) = true at hk6
       unfold kindN at hk6
       simp only at hk6
       (repeat' split at hk6) <;> first | omega | (cases hk6)
      simp (disch := omega) only [push_cast, simprocAttr, wrap_i64, toNat_ofInt64, Nat.min_eq_left, Int.toNat_of_nonneg, hi2, hO]
      intro c' hc'
      rw [era_none hc']
      simp (disch := omega) only [push_cast, simprocAttr, wrap_i64, toNat_ofInt64, Nat.min_eq_left, Int.toNat_of_nonneg, c5, d4, d6]
      refine ⟨_, _, by omega, .refl _, i + 1, mo, mx, rfl, by omega, hI.congr (fun n _ => ?_) (hac0 h4), hri, rfl⟩
      rw [hnm n, decide_eq_false h4, decide_eq_false c5]
      simp
   ·obtain rfl : i = b.ops.length := by omega
    rw [List.take_length] at hI
    obtain ⟨q1, q2⟩ := hI.done fun k hk h4 => by simp [hk, h4]
    subst q1
    subst q2
    obtain ⟨jb3, _, _⟩ := hri.at
    have jb2 := h2of hri
    simp only [push_cast, simprocAttr, hi2, jb3, jb2]
    exact ⟨_, b3, b4, vo, vx, rfl, sub_upd h20 hs, by rw [upd_ne (Ne.symm n23)]; exact hg3, by rw [upd_ne (Ne.symm n24)]; exact hg4, hri.upd hb2 n23 n24⟩
  show wpc _ _ _ (.seq [1, 2] C108_0 (.seq [1, 2, 3] C108_1 (.seq [1, 2, 3, 4] C108_2 (.seq [1, 2, 3, 4] C108_3 C108_47)))) _ _ _
  generalize C108_47 = Z at fin ⊢
  generalize retQ C108r _ = QQ at fin ⊢
  have fin2 : ∀ b1 bm bq bo bx sp1 sp2, b1 ≠ bm → b1 ≠ bq → b1 ≠ bo → b1 ≠ bx → bm ≠ bq → bm ≠ bo → bm ≠ bx → bq ≠ bo → bq ≠ bx → bo ≠ bx → h b1 = none → h bm = none → h bq = none → h bo = none → h bx = none →
    ∀ H, H = Ab.upd (Ab.upd (Ab.upd (Ab.upd (Ab.upd h b1 ⟨[.nils, .nils], 0⟩) bm ⟨[.sl bo 0 b.ops.length b.ops.length, .sl bx 0 b.exits.length b.exits.length], 0⟩) bq ⟨[opFn b bm bq], 0⟩) bo ⟨List.replicate b.ops.length (.bool false), sp1⟩) bx ⟨List.replicate b.exits.length (.bool false), sp2⟩ → wpc Tryz.prog G Tryz.f108.ntmps Z QQ [(1, .cp [bkP b] 0), (2, .ptr b1 0), (3, .ptr bm 0), (4, .ptr bq 0)] H := by
   intro b1 bm bq bo bx sp1 sp2 n1 n2 n3 n4 n5 n6 n7 n8 n9 n10 h1 h2 h3 h4 h5 H hH
   refine fin b1 bm bq (Ab.upd h b1 ⟨[.nils, .nils], 0⟩) H (.sl bo 0 b.ops.length b.ops.length) (.sl bx 0 b.exits.length b.exits.length) h1 n1 n2 (upd_same _ _ _) (sub_upd h1 (.refl _)) (by rw [upd_ne (Ne.symm n1)]; exact h2) (by rw [upd_ne (Ne.symm n2)]; exact h3) ⟨n5, Ab.upd (Ab.upd (Ab.upd (Ab.upd h b1 ⟨[.nils, .nils], 0⟩) bm ⟨[.sl bo 0 b.ops.length b.ops.length, .sl bx 0 b.exits.length b.exits.length], 0⟩) bq ⟨[opFn b bm bq], 0⟩) bo ⟨List.replicate b.ops.length (.bool false), sp1⟩, ?_, ?_⟩
   ·have := Own.row (sz := 1) (g := Ab.upd (Ab.upd (Ab.upd h b1 ⟨[.nils, .nils], 0⟩) bm ⟨[.sl bo 0 b.ops.length b.ops.length, .sl bx 0 b.exits.length b.exits.length], 0⟩) bq ⟨[opFn b bm bq], 0⟩) bo b.ops.length b.ops.length [] (List.replicate b.ops.length (.bool false)) sp1 (by rw [upd_ne (Ne.symm n8), upd_ne (Ne.symm n6), upd_ne (Ne.symm n3)]; exact h4) (by simp) (by omega)
    rw [List.map_replicate, List.length_replicate]
    exact this
   ·have := Own.row (sz := 1) (g := Ab.upd (Ab.upd (Ab.upd (Ab.upd h b1 ⟨[.nils, .nils], 0⟩) bm ⟨[.sl bo 0 b.ops.length b.ops.length, .sl bx 0 b.exits.length b.exits.length], 0⟩) bq ⟨[opFn b bm bq], 0⟩) bo ⟨List.replicate b.ops.length (.bool false), sp1⟩) bx b.exits.length b.exits.length [] (List.replicate b.exits.length (.bool false)) sp2 (by rw [upd_ne (Ne.symm n10), upd_ne (Ne.symm n9), upd_ne (Ne.symm n7), upd_ne (Ne.symm n4)]; exact h5) (by simp) (by omega)
    rw [List.map_replicate, List.length_replicate, hH]
    exact this
  clear fin
  simp only [push_cast, simprocAttr]
  intro b1 hb1
  refine ⟨⟨by omega, by omega, by omega, fun bo ho => ⟨⟨by omega, by omega, by omega, fun bx hx bm hm bq hq => ?_⟩, fun bm hm => ⟨by omega, by omega, by omega, fun bx hx => ?_⟩⟩⟩, ⟨by omega, by omega, by omega, fun bx hx => ⟨⟨by omega, by omega, by omega, fun bo ho bm hm bq hq => ?_⟩, fun bm hm => ⟨by omega, by omega, by omega, fun bo ho => ?_⟩⟩⟩,
   fun bm hm => ⟨⟨by omega, by omega, by omega, fun bo ho => ⟨by omega, by omega, by omega, fun bx hx => ?_⟩⟩, ⟨by omega, by omega, by omega, fun bx hx => ⟨by omega, by omega, by omega, fun bo ho => ?_⟩⟩⟩⟩
  ·have fbo := fresh1 ho
   have fbx := fresh2 hx
   have fbm := fresh3 hm
   have fbq := fresh4 hq
   refine fin2 b1 bm bq bo bx ((b.ops.length : Int) - (b.ops.length : Int)).toNat ((b.exits.length : Int) - (b.exits.length : Int)).toNat (by omega) (by omega) (by omega) (by omega) (by omega) (by omega) (by omega) (by omega) (by omega) (by omega) hb1 fbm.2.2.2 fbq.2.2.2.2 fbo.2 fbx.2.2 _ ?_
   funext d
   simp only [upd_at]
   (repeat' split) <;> first | rfl | (exfalso; omega)
  ·have fbo := fresh1 ho
   have fbm := fresh2 hm
   have fbx := fresh3 hx
   have km : (Ab.upd (Ab.upd (Ab.upd (Ab.upd h b1 ⟨[AV.nils, AV.nils], 0⟩) bo ⟨List.replicate b.ops.length (AV.bool false), ((b.ops.length : Int) - (b.ops.length : Int)).toNat⟩) bm ⟨[AV.nils, AV.nils], 0⟩) bx ⟨List.replicate b.exits.length (AV.bool false), ((b.exits.length : Int) - (b.exits.length : Int)).toNat⟩) bm = some ⟨[AV.nils, AV.nils], 0⟩ := by rw [upd_ne (by omega : bm ≠ bx)]; exact upd_same _ _ _
   simp only [push_cast, simprocAttr, km]
   intro bq hq
   have fbq := fresh5 hq
   refine fin2 b1 bm bq bo bx ((b.ops.length : Int) - (b.ops.length : Int)).toNat ((b.exits.length : Int) - (b.exits.length : Int)).toNat (by omega) (by omega) (by omega) (by omega) (by omega) (by omega) (by omega) (by omega) (by omega) (by omega) hb1 fbm.2.2 fbq.2.2.2.2.2 fbo.2 fbx.2.2.2 _ ?_
   funext d
   simp only [upd_at]
   (repeat' split) <;> first | rfl | (exfalso; omega)
  ·have fbx := fresh1 hx
   have fbo := fresh2 ho
   have fbm := fresh3 hm
   have fbq := fresh4 hq
   refine fin2 b1 bm bq bo bx ((b.ops.length : Int) - (b.ops.length : Int)).toNat ((b.exits.length : Int) - (b.exits.length : Int)).toNat (by omega) (by omega) (by omega) (by omega) (by omega) (by omega) (by omega) (by omega) (by omega) (by omega) hb1 fbm.2.2.2 fbq.2.2.2.2 fbo.2.2 fbx.2 _ ?_
   funext d
   simp only [upd_at]
   (repeat' split) <;> first | rfl | (exfalso; omega)
  ·have fbx := fresh1 hx
   have fbm := fresh2 hm
   have fbo := fresh3 ho
   have km : (Ab.upd (Ab.upd (Ab.upd (Ab.upd h b1 ⟨[AV.nils, AV.nils], 0⟩) bx ⟨List.replicate b.exits.length (AV.bool false), ((b.exits.length : Int) - (b.exits.length : Int)).toNat⟩) bm ⟨[AV.nils, AV.nils], 0⟩) bo ⟨List.replicate b.ops.length (AV.bool false), ((b.ops.length : Int) - (b.ops.length : Int)).toNat⟩) bm = some ⟨[AV.nils, AV.nils], 0⟩ := by rw [upd_ne (by omega : bm ≠ bo)]; exact upd_same _ _ _
   simp only [push_cast, simprocAttr, km]
   intro bq hq
   have fbq := fresh5 hq
   refine fin2 b1 bm bq bo bx ((b.ops.length : Int) - (b.ops.length : Int)).toNat ((b.exits.length : Int) - (b.exits.length : Int)).toNat (by omega) (by omega) (by omega) (by omega) (by omega) (by omega) (by omega) (by omega) (by omega) (by omega) hb1 fbm.2.2 fbq.2.2.2.2.2 fbo.2.2.2 fbx.2 _ ?_
   funext d
   simp only [upd_at]
   (repeat' split) <;> first | rfl | (exfalso; omega)
  ·have fbm := fresh1 hm
   have fbo := fresh2 ho
   have fbx := fresh3 hx
   have km : (Ab.upd (Ab.upd (Ab.upd (Ab.upd h b1 ⟨[AV.nils, AV.nils], 0⟩) bm ⟨[AV.nils, AV.nils], 0⟩) bo ⟨List.replicate b.ops.length (AV.bool false), ((b.ops.length : Int) - (b.ops.length : Int)).toNat⟩) bx ⟨List.replicate b.exits.length (AV.bool false), ((b.exits.length : Int) - (b.exits.length : Int)).toNat⟩) bm = some ⟨[AV.nils, AV.nils], 0⟩ := by rw [upd_ne (by omega : bm ≠ bx), upd_ne (by omega : bm ≠ bo)]; exact upd_same _ _ _
   simp only [push_cast, simprocAttr, km]
   intro bq hq
   have fbq := fresh5 hq
   refine fin2 b1 bm bq bo bx ((b.ops.length : Int) - (b.ops.length : Int)).toNat ((b.exits.length : Int) - (b.exits.length : Int)).toNat (by omega) (by omega) (by omega) (by omega) (by omega) (by omega) (by omega) (by omega) (by omega) (by omega) hb1 fbm.2 fbq.2.2.2.2.2 fbo.2.2 fbx.2.2.2 _ ?_
   funext d
   simp only [upd_at]
   (repeat' split) <;> first | rfl | (exfalso; omega)
  ·have fbm := fresh1 hm
   have fbx := fresh2 hx
   have fbo := fresh3 ho
   have km : (Ab.upd (Ab.upd (Ab.upd (Ab.upd h b1 ⟨[AV.nils, AV.nils], 0⟩) bm ⟨[AV.nils, AV.nils], 0⟩) bx ⟨List.replicate b.exits.length (AV.bool false), ((b.exits.length : Int) - (b.exits.length : Int)).toNat⟩) bo ⟨List.replicate b.ops.length (AV.bool false), ((b.ops.length : Int) - (b.ops.length : Int)).toNat⟩) bm = some ⟨[AV.nils, AV.nils], 0⟩ := by rw [upd_ne (by omega : bm ≠ bo), upd_ne (by omega : bm ≠ bx)]; exact upd_same _ _ _
   simp only [push_cast, simprocAttr, km]
   intro bq hq
   have fbq := fresh5 hq
   refine fin2 b1 bm bq bo bx ((b.ops.length : Int) - (b.ops.length : Int)).toNat ((b.exits.length : Int) - (b.exits.length : Int)).toNat (by omega) (by omega) (by omega) (by omega) (by omega) (by omega) (by omega) (by omega) (by omega) (by omega) hb1 fbm.2 fbq.2.2.2.2.2 fbo.2.2.2 fbx.2.2 _ ?_
   funext d
   simp only [upd_at]
   (repeat' split) <;> first | rfl | (exfalso; omega)
 ·rintro _ h' ⟨g, b3, b4, vo, vx, rfl, hs, h3, h4, hn, h1, o1, o2⟩
  refine ⟨_, _, ⟨rfl, rfl⟩, ?_⟩
  have e2 := Le.aggF (L := [vo, vx]) (i := 1) o2 rfl
  have e1 := Le.aggF (L := [vo, .ro (((List.range b.exits.length).map (namedX b.ops b.last)).map .bool) ((List.range b.exits.length).map (namedX b.ops b.last)).length]) (i := 0) o1 rfl
  have e3 : Sub h (Ab.upd (Ab.upd g b3 ⟨[vo, vx], 0⟩) b4 ⟨[opFn b b3 b4], 0⟩) := sub_upd (hs.none h4) (sub_upd (hs.none h3) hs)
  have := le_trans e2 (le_trans e1 (le_sub e3 (Le.refl _ _)))
  simpa using this
end Go.Ab
end
section
namespace Go.Ab
open Go.Proofs
variable {G : Glo} {h : Heap}
abbrev boolsV (kp : Nat → Bool) (n : Nat) : AV := .ro (((List.range n).map kp).map .bool) n
def upW (kp : Nat → Bool) (n k : Nat) : List Int := (List.range n).map fun j => if j < k then (plN kp j : Int) else 0
theorem upW_len (kp n k) : (upW kp n k).length = n := by simp [upW]
theorem upW_set (kp : Nat → Bool) {n k : Nat} (hk : k < n) : (upW kp n k).set k (plN kp k : Int) = upW kp n (k + 1) := by
 apply List.ext_getElem
 ·simp [upW]
 ·intro i h1 h2
  have hi : i < n := by simpa [upW] using h2
  rw [List.getElem_set]
  simp only [upW, List.getElem_map, List.getElem_range]
  by_cases e : k = i
  ·subst e; rw [if_pos rfl, if_pos (by omega)]
  ·rw [if_neg e]
   by_cases hik : i < k
   ·rw [if_pos hik, if_pos (by omega)]
   ·rw [if_neg hik, if_neg (by omega)]
theorem upW_all (kp : Nat → Bool) (n : Nat) : upW kp n n = upk kp n := by
 unfold upW upk
 refine List.map_congr_left fun i hi => ?_
 rw [if_pos (by simpa using hi)]
theorem upk_len (kp n) : (upk kp n).length = n := by simp [upk]
theorem renumber_spec (kp : Nat → Bool) (n : Nat) (hn : n ≤ 1000000000000) : Spec Tryz.prog G 109 [boolsV kp n] h (Is (ints (upk kp n)) h) := by
 refine Spec.weak (Q := fun r h' => Own 1 h r ((upk kp n).map (.int .i64)) n h') ?_ ?_
 ·refine Spec.walk C109ok rfl ?_
  simp only [push_cast, simprocAttr]
  refine ⟨by omega, by omega, by omega, fun b hb => ?_⟩
  generalize ((n : Int) - (n : Int)).toNat = sp
  have h0 : Own 1 h (.sl b 0 n n) ((upW kp n 0).map (.int .i64)) n (Ab.upd h b ⟨List.replicate n (.int .i64 0), sp⟩) := by
   have := Own.row (sz := 1) (g := h) b n n [] (List.replicate n (.int .i64 0)) sp hb (by simp) (by omega)
   have e : (upW kp n 0).map (AV.int .i64) = List.replicate n (.int .i64 0) := by
    apply List.ext_getElem
    ·simp [upW]
    ·intro i h1 h2; simp [upW]
   rw [e]
   exact this
  generalize AV.sl b 0 n n = v at *
  generalize Ab.upd h b _ = H at *
  refine lpc.rel [3, 4, 10, 11, 12] (fun m ρ h' => ∃ k : Nat, m = n - k ∧ k ≤ n ∧ Own 1 h v ((upW kp n k).map (.int .i64)) n h' ∧
   ρ = [(3, v), (4, .int .i64 (plN kp k : Int)), (10, boolsV kp n), (11, .int .i64 (n : Int)), (12, .int .i64 (k : Int))]) ⟨_, 0, rfl, by omega, h0, rfl⟩ ?_
  rintro m _ h2 ⟨k, rfl, hk, ho, rfl⟩
  by_cases hk2 : k < n
  ·obtain ⟨bo, pre, cap, sp, rfl, hbo, _, put⟩ := own_lie ho (by omega)
   have hset : (pre ++ (upW kp n k).map (AV.int .i64)).set (pre.length + k) (.int .i64 (plN kp k : Int)) = pre ++ ((upW kp n k).set k (plN kp k : Int)).map (AV.int .i64) := by
    rw [List.set_append_right _ _ (by omega), Nat.add_sub_cancel_left, List.map_set]
   have hlen : (pre ++ (upW kp n k).map (AV.int .i64)).length = pre.length + n := by rw [List.length_append, List.length_map, upW_len]
   have hget : (((List.range n).map kp).map AV.bool)[k]? = some (.bool (kp k)) := by simp [hk2]
   have hle := plN_le kp k
   have hsu := plN_succ kp k
   simp (disch := omega) only [push_cast, simprocAttr, wrap_i64, toNat_ofInt64, Nat.min_eq_left, Int.toNat_of_nonneg, hk2, hbo, hset, hlen, hget]
   rw [upW_set kp hk2]
   have ho2 := put ((upW kp n (k + 1)).map (.int .i64)) (by simp [upW])
   refine ⟨by omega, fun hm => ?_, fun hm => ?_⟩
   ·rw [hm, if_pos rfl] at hsu
    exact ⟨_, _, by omega, .refl _, k + 1, rfl, by omega, ho2, by rw [hsu]; rfl⟩
   ·rw [hm, if_neg (by simp), Nat.add_zero] at hsu
    exact ⟨_, _, by omega, .refl _, k + 1, rfl, by omega, ho2, by rw [hsu]; rfl⟩
  ·obtain rfl : k = n := by omega
   simp only [push_cast, simprocAttr, hk2]
   rw [upW_all] at ho
   exact ho
 ·rintro r h' ho
  refine ⟨_, _, ⟨rfl, rfl⟩, ?_⟩
  have := ho.freeze
  have e : ints (upk kp n) = .ro ((upk kp n).map (.int .i64)) n := by show AV.ro _ _ = _; rw [upk_len]
  rw [e]
  exact this
theorem ddop_spec (o : IOp) (to xs : List Int) (hR : renOK to o) (hx : o.code = 4 ∨ o.code = 5 ∨ o.code = 6 → 0 ≤ o.x ∧ o.x < xs.length) (hy : o.code = 5 → 0 ≤ o.y ∧ o.y < xs.length) (pl : Nat → Nat) (hp : ∀ x : Int, 0 ≤ x → x < xs.length → xs.getD x.toNat 0 = pl x.toNat) (h6 : o.code ≤ 6) :
  Spec Tryz.prog G 110 [.agg o.cells, ints to, ints xs] h (Is (.agg (reX pl (ren to o)).cells) h) := by
 obtain ⟨hR1, hR2⟩ := hR
 refine Spec.is C110ok rfl ?_
 simp only [push_cast, simprocAttr]
 intro b3 hb3 b6 hb6
 have n := upd_none hb6
 have f1 : ¬ b6 = b3 := n.1
 have f2 : ¬ b3 = b6 := fun e => f1 e.symm
 have hs4 : ∀ X Y Z W, Sub h (Ab.upd (Ab.upd (Ab.upd (Ab.upd h b3 X) b6 Y) b3 Z) b6 W) := fun X Y Z W => sub_upd n.2 (sub_upd hb3 (sub_upd n.2 (sub_upd hb3 (.refl _))))
 have hs3 : ∀ X W, Sub h (Ab.upd (Ab.upd h b3 X) b6 W) := fun X W => sub_upd n.2 (sub_upd hb3 (.refl _))
 by_cases c5 : o.code = 5
 ·obtain ⟨⟨a0, a1⟩, b0, b1⟩ := hR1 (by omega)
  obtain ⟨x0, x1⟩ := hx (by omega)
  obtain ⟨y0, y1⟩ := hy c5
  have p1 := hp _ x0 x1
  have p2 := hp _ y0 y1
  have q1 : o.a.toNat < to.length := by omega
  have q2 : o.b.toNat < to.length := by omega
  have q3 : o.x.toNat < xs.length := by omega
  have q4 : o.y.toNat < xs.length := by omega
  have hre : reX pl (ren to o) = ⟨5, to.getD o.a.toNat 0, to.getD o.b.toNat 0, o.imm, pl o.x.toNat, pl o.y.toNat⟩ := by unfold ren reX; simp [c5]
  simp (disch := omega) only [push_cast, simprocAttr, wrap_i64, toNat_ofInt64, Nat.min_eq_left, Int.toNat_of_nonneg, upd_at, f1, f2, a0, a1, b0, b1, x0, x1, y0, y1, q1, q2, q3, q4, p1, p2, c5]
  exact ⟨by rw [hre], hs4 _ _ _ _⟩
 by_cases c6 : o.code = 6
 ·obtain ⟨⟨a0, a1⟩, b0, b1⟩ := hR1 (by omega)
  obtain ⟨x0, x1⟩ := hx (by omega)
  have p1 := hp _ x0 x1
  have q1 : o.a.toNat < to.length := by omega
  have q2 : o.b.toNat < to.length := by omega
  have q3 : o.x.toNat < xs.length := by omega
  have hre : reX pl (ren to o) = ⟨6, to.getD o.a.toNat 0, to.getD o.b.toNat 0, o.imm, pl o.x.toNat, o.y⟩ := by unfold ren reX; simp [c6]
  simp (disch := omega) only [push_cast, simprocAttr, wrap_i64, toNat_ofInt64, Nat.min_eq_left, Int.toNat_of_nonneg, upd_at, f1, f2, a0, a1, b0, b1, x0, x1, q1, q2, q3, p1, c6]
  exact ⟨by rw [hre], hs4 _ _ _ _⟩
 by_cases c3 : o.code = 3
 ·obtain ⟨⟨a0, a1⟩, b0, b1⟩ := hR1 (by omega)
  have q1 : o.a.toNat < to.length := by omega
  have q2 : o.b.toNat < to.length := by omega
  have hre : reX pl (ren to o) = ⟨3, to.getD o.a.toNat 0, to.getD o.b.toNat 0, o.imm, o.x, o.y⟩ := by unfold ren reX; simp [c3]
  simp (disch := omega) only [push_cast, simprocAttr, wrap_i64, toNat_ofInt64, Nat.min_eq_left, Int.toNat_of_nonneg, upd_at, f1, f2, a0, a1, b0, b1, q1, q2, c3]
  exact ⟨by rw [hre], hs4 _ _ _ _⟩
 by_cases c4 : o.code = 4
 ·obtain ⟨a0, a1⟩ := hR2 (by omega)
  obtain ⟨x0, x1⟩ := hx (by omega)
  have p1 := hp _ x0 x1
  have q1 : o.a.toNat < to.length := by omega
  have q3 : o.x.toNat < xs.length := by omega
  have hre : reX pl (ren to o) = ⟨4, to.getD o.a.toNat 0, o.b, o.imm, pl o.x.toNat, o.y⟩ := by unfold ren reX; simp [c4]
  simp (disch := omega) only [push_cast, simprocAttr, wrap_i64, toNat_ofInt64, Nat.min_eq_left, Int.toNat_of_nonneg, upd_at, f1, f2, a0, a1, x0, x1, q1, q3, p1, c4]
  exact ⟨by rw [hre], hs4 _ _ _ _⟩
 ·have hre : reX pl (ren to o) = o := by unfold ren; rw [if_neg (by omega), if_neg c4]; exact reX0 pl (by omega)
  simp (disch := omega) only [push_cast, simprocAttr, wrap_i64, toNat_ofInt64, Nat.min_eq_left, Int.toNat_of_nonneg, upd_at, f1, f2, c5, c6, c3, c4]
  exact ⟨by rw [hre], hs3 _ _⟩
def mapD (b : IBk) (to : List Int) (m : List IVl) (k : Nat) : List IVl := ((m.take k).filter fun v => !ownV b v).map (renV to)
theorem mapD_succ (b : IBk) (to : List Int) (m : List IVl) (k : Nat) (hk : k < m.length) : mapD b to m (k + 1) = if ownV b (m.getD k IVl.zero) then mapD b to m k else mapD b to m k ++ [renV to (m.getD k IVl.zero)] := by
 unfold mapD
 rw [List.take_add_one, List.filter_append, List.map_append]
 cases ho : ownV b (m.getD k IVl.zero) <;> simp [hk] at ho ⊢ <;> simp [ho]
theorem ddexit_spec (b : IBk) (e : IEx) (to : List Int) (hlen : to.length = b.ops.length) (hok : exOK to e) (hl : e.map.length ≤ 1000000000000) :
  Spec Tryz.prog G 111 [bkP b, .agg e.cells, ints to] h (fun r h' => ∃ g w, r = .agg (exC (trE b to e) w) ∧ Sub h g ∧ Own 2 g w ((trE b to e).map.flatMap IVl.cells) (trE b to e).map.length h') := by
 obtain ⟨ok1, ok2⟩ := hok
 have hmE : (trE b to e).map = mapD b to e.map e.map.length := by unfold trE renE mapD; simp only [List.take_length]
 have tail : ∀ b4 b6 e1 Z H, b6 ≠ b4 → h b4 = none → h b6 = none → exC (trE b to e) = exC e1 → H = Ab.upd (Ab.upd h b4 ⟨exC e1 .nils, 0⟩) b6 ⟨Z, 0⟩ → Z.length = 5 →
   wpc Tryz.prog G Tryz.f111.ntmps C111_27 (retQ C111r (fun r h' => ∃ g w, r = .agg (exC (trE b to e) w) ∧ Sub h g ∧ Own 2 g w ((trE b to e).map.flatMap IVl.cells) (trE b to e).map.length h')) [(0, bkP b), (2, ints to), (4, .ptr b4 0), (6, .ptr b6 0), (7, vls e.map)] H := by
  rintro b4 b6 e1 Z H n64 h4 h6 hex rfl hZ
  rw [hex]
  simp only [push_cast, simprocAttr]
  refine lpc.rel [0, 2, 4, 6, 22, 23, 24] (fun m ρ h' => ∃ (k : Nat) (w : AV), m = e.map.length - k ∧ k ≤ e.map.length ∧ Own 2 (Ab.upd (Ab.upd h b4 ⟨exC e1 w, 0⟩) b6 ⟨Z, 0⟩) w ((mapD b to e.map k).flatMap IVl.cells) (mapD b to e.map k).length h' ∧
   ρ = [(0, bkP b), (2, ints to), (4, .ptr b4 0), (6, .ptr b6 0), (22, vls e.map), (23, .int .i64 (e.map.length : Int)), (24, .int .i64 (k : Int))]) ⟨_, 0, .nils, rfl, by omega, .nil, rfl⟩ ?_
  rintro m _ h2 ⟨k, w, rfl, hk, ho, rfl⟩
  have k4 : (Ab.upd (Ab.upd h b4 ⟨exC e1 w, 0⟩) b6 ⟨Z, 0⟩) b4 = some ⟨exC e1 w, 0⟩ := by rw [upd_ne (Ne.symm n64)]; exact upd_same _ _ _
  have k6 : (Ab.upd (Ab.upd h b4 ⟨exC e1 w, 0⟩) b6 ⟨Z, 0⟩) b6 = some ⟨Z, 0⟩ := upd_same _ _ _
  have j4 := ho.get k4
  have j6 := ho.get k6
  have x4 : (exC e1 w)[4]? = some w := rfl
  have xl : (exC e1 w).length = 5 := rfl
  by_cases hk2 : k < e.map.length
  ·have hv2 : 0 ≤ (e.map.getD k IVl.zero).val ∧ (e.map.getD k IVl.zero).val < to.length := ok2 _ (by rw [List.getD_eq_getElem?_getD, List.getElem?_eq_getElem hk2]; simp)
   have hsu := mapD_succ b to e.map k hk2
   have hmk : (mapD b to e.map k).length ≤ k := by unfold mapD; rw [List.length_map]; exact Nat.le_trans (List.length_filter_le _ _) (by simp; omega)
   generalize hv : e.map.getD k IVl.zero = v at *
   obtain ⟨v0, v1⟩ := hv2
   have q : v.val.toNat < to.length := by omega
   simp only [push_cast, simprocAttr, hk2, hv]
   intro c' hc'
   rw [era_none hc']
   refine (own_spec b v v0 (by omega)).to ?_
   cases hw : ownV b v with
   | true =>
    rw [hw, if_pos rfl] at hsu
    simp (disch := omega) only [push_cast, simprocAttr, wrap_i64, toNat_ofInt64, Nat.min_eq_left, Int.toNat_of_nonneg]
    exact ⟨_, _, by omega, .refl _, k + 1, w, rfl, by omega, by rw [hsu]; exact ho, rfl⟩
   | false =>
    rw [hw, if_neg (by simp)] at hsu
    simp (disch := omega) only [push_cast, simprocAttr, wrap_i64, toNat_ofInt64, Nat.min_eq_left, Int.toNat_of_nonneg, j4, x4, v0, v1, q]
    refine Own.app ho (m := 1) rfl (by omega) (by omega) fun w5 h5 o5 => ?_
    have hone := o5.one
    have j45 := o5.get k4
    have xs : (exC e1 w).set 4 w5 = exC e1 w5 := rfl
    simp (disch := omega) only [push_cast, simprocAttr, wrap_i64, toNat_ofInt64, Nat.min_eq_left, Int.toNat_of_nonneg, j45, hone, xl, xs]
    refine ⟨_, _, by omega, .refl _, k + 1, w5, rfl, by omega, ?_, rfl⟩
    have o6 := o5.upd (b := b4) (x := ⟨exC e1 w5, 0⟩) (.inr ⟨_, k4⟩)
    rw [upd_comm (h := Ab.upd h b4 ⟨exC e1 w, 0⟩) n64, upd_upd] at o6
    rw [hsu, List.flatMap_append, List.length_append]
    exact o6
  ·obtain rfl : k = e.map.length := by omega
   simp (disch := omega) only [push_cast, simprocAttr, wrap_i64, toNat_ofInt64, Nat.min_eq_left, Int.toNat_of_nonneg, hk2, j4, j6, xl, hZ]
   rw [hmE]
   have oF := ho.upd (b := b6) (x := ⟨exC e1 w, 0⟩) (.inr ⟨_, k6⟩)
   exact ⟨Ab.upd (Ab.upd (Ab.upd h b4 ⟨exC e1 w, 0⟩) b6 ⟨Z, 0⟩) b6 ⟨exC e1 w, 0⟩, w, rfl, sub_upd h6 (sub_upd h6 (sub_upd h4 (.refl _))), oF⟩
 refine Spec.walk C111ok rfl ?_
 show wpc _ _ _ (.seq [0, 2, 4, 6] C111_0 (.seq [0, 2, 4, 6, 7] C111_1 (.seq [0, 2, 4, 6, 7] C111_2 (.seq [0, 2, 4, 6, 7] C111_6 C111_27)))) _ _ _
 generalize C111_27 = Y at tail ⊢
 simp only [push_cast, simprocAttr]
 intro b4 hb4 b6 hb6
 have n := upd_none hb6
 have f1 : ¬ b6 = b4 := n.1
 have f2 : ¬ b4 = b6 := fun e => f1 e.symm
 have e4 : e.cells[4]? = some (vls e.map) := rfl
 have es4 : e.cells.set 4 .nils = exC e .nils := rfl
 have x2 : (exC e .nils)[2]? = some (.int .i64 e.to) := rfl
 have xl : (exC e .nils).length = 5 := rfl
 have xs : ∀ x : Int, (exC e .nils).set 2 (.int .i64 x) = exC { e with to := x } .nils := fun _ => rfl
 by_cases ht : e.to = -1
 ·simp only [push_cast, simprocAttr, upd_at, f1, f2, e4, es4, x2, xl, ht]
  refine tail b4 b6 e [.int .i64 0, .int .u32 0, .int .i64 0, .int .i64 0, .nils] _ f1 hb4 n.2 ?_ ?_ rfl
  ·funext w
   unfold trE renE
   rw [if_pos ht]
   unfold exC
   rw [ht]
  ·rw [upd_comm (h := Ab.upd h b4 ⟨e.cells, 0⟩) f1, upd_upd]
 ·have q : 0 ≤ e.to ∧ e.to < to.length := by omega
  obtain ⟨q0, q1⟩ := q
  have q2 : e.to.toNat < to.length := by omega
  simp (disch := omega) only [push_cast, simprocAttr, wrap_i64, toNat_ofInt64, Nat.min_eq_left, Int.toNat_of_nonneg, upd_at, f1, f2, e4, es4, x2, xl, ht, q0, q1, q2, xs]
  refine tail b4 b6 { e with to := to.getD e.to.toNat 0 } [.int .i64 0, .int .u32 0, .int .i64 0, .int .i64 0, .nils] _ f1 hb4 n.2 ?_ ?_ rfl
  ·funext w
   unfold trE renE
   rw [if_neg ht]
   rfl
  ·rw [upd_comm (h := Ab.upd h b4 ⟨e.cells, 0⟩) f1, upd_upd]
end Go.Ab
end
section
namespace Go.Ab
open Go.Proofs
variable {G : Glo} {h : Heap}
theorem own_small {sz n : Nat} {g h' : Heap} {v : AV} {c : List AV} (hs : Sub h g) (ho : Own sz g v c n h') : ∃ h2, Own sz h v c n h2 ∧ Sub h2 h' := by
 cases ho with
 | nil => exact ⟨h, .nil, hs⟩
 | row b n cap pre cells sp hb hl hc =>
  refine ⟨_, .row b n cap pre c sp (hs.none hb) hl hc, fun d y hd => ?_⟩
  rw [upd_at] at hd ⊢
  by_cases e : d = b
  ·rw [if_pos e] at hd ⊢; exact hd
  ·rw [if_neg e] at hd ⊢; exact hs d y hd
theorem ddexit_spec' (b : IBk) (e : IEx) (to : List Int) (hlen : to.length = b.ops.length) (hok : exOK to e) (hl : e.map.length ≤ 1000000000000) :
  Spec Tryz.prog G 111 [bkP b, .agg e.cells, ints to] h (fun r h' => ∃ w, r = .agg (exC (trE b to e) w) ∧ Own 2 h w ((trE b to e).map.flatMap IVl.cells) (trE b to e).map.length h') := by
 refine Spec.weak (ddexit_spec b e to hlen hok hl) ?_
 rintro _ h' ⟨g, w, rfl, hs, ho⟩
 obtain ⟨h2, o2, s2⟩ := own_small hs ho
 exact ⟨_, h2, ⟨w, rfl, o2⟩, le_sub s2 (Le.refl _ _)⟩
theorem deadDo_spec (b : IBk) (hw : b.wf) (hc : b.check = 0) : Spec Tryz.prog G 69 [bkP b] h (Is (.tup [bkP (b.dd (askN b)), .int .i64 0]) h) := by
 obtain ⟨hops, hexs⟩ := right_parts hc
 obtain ⟨hs1, hs2, hs3⟩ := hw.hs
 have hK := askN_ok b hc
 refine Spec.weak (Q := fun r h' => ∃ b8 g vx, r = .tup [.ptr b8 0, .int .i64 0] ∧ h b8 = none ∧ Sub h g ∧ g b8 = some ⟨[.ro (wds b.pcs) b.pcs.length, ops (b.dd (askN b)).ops, vx, .int .i64 (b.dd (askN b)).last], 0⟩ ∧ ExO g vx (b.dd (askN b)).exits h') ?_ ?_
 ·refine Spec.walk C69ok rfl ?_
  simp only [push_cast, simprocAttr]
  refine (Check_spec b hw).to ?_
  rw [hc]
  simp only [push_cast, simprocAttr]
  refine (dasked_spec b hw hc).to ?_
  simp only [push_cast, simprocAttr]
  intro c5 hc5
  rw [era_none hc5]
  refine (renumber_spec (askN b) b.ops.length hs1).to ?_
  simp only [push_cast, simprocAttr]
  refine (renumber_spec (namedX b.ops b.last) b.exits.length hs2).to ?_
  have hul := upk_len (askN b) b.ops.length
  have hxl := upk_len (namedX b.ops b.last) b.exits.length
  have hlast : b.exit b.last b.ops.length = true := by
   have := chk_right hc
   simp only [IBk.right, Bool.and_eq_true] at this
   exact this.2
  obtain ⟨⟨l0, l1⟩, _, _⟩ := exit_parts hlast
  have hgl := upk_get (kp := namedX b.ops b.last) (n := b.exits.length) (i := b.last.toNat) (by omega)
  have ql : b.last.toNat < b.exits.length := by omega
  generalize hto : upk (askN b) b.ops.length = to at *
  generalize hxs : upk (namedX b.ops b.last) b.exits.length = xs at *
  simp (disch := omega) only [push_cast, simprocAttr, wrap_i64, toNat_ofInt64, Nat.min_eq_left, Int.toNat_of_nonneg, hxl, l0, l1, ql, hgl]
  intro bp hbp
  have hp32 := (long_parts hc).1
  have hwl : (wds b.pcs).length = b.pcs.length := by simp [wds]
  refine Own.app (Own.row bp 0 0 [] [] 0 hbp rfl (by omega) : Own 1 h (.sl bp 0 0 0) [] 0 _) (m := b.pcs.length) (by omega) (by omega) (by omega) fun vp h1 o1 => ?_
  rw [List.nil_append, Nat.zero_add] at o1
  have hone := o1.one
  simp (disch := omega) only [push_cast, simprocAttr, wrap_i64, toNat_ofInt64, Nat.min_eq_left, Int.toNat_of_nonneg, hone, hxl, l0, l1, ql, hgl]
  intro b8 h8
  have h80 : h b8 = none := o1.sub.none h8
  generalize hlp : (plN (namedX b.ops b.last) b.last.toNat : Int) = lp at *
  generalize hpl : plN (namedX b.ops b.last) = pl at *
  have o1' := o1.upd (b := b8) (x := ⟨[vp, .nils, .nils, .int .i64 lp], 0⟩) (.inl h8)
  have hkd := fun k hk => kind_of (hops k hk)
  have hres := named_kept (kp := askN b) hK
  have hddo : (b.dd (askN b)).ops = (keptO (askN b) b b.ops.length).map (reX pl) := by
   show (keptO (askN b) b b.ops.length).map (reX (plN (namedX (keptO (askN b) b b.ops.length) b.last))) = _
   rw [← hpl, show namedX (keptO (askN b) b b.ops.length) b.last = namedX b.ops b.last from funext hres]
  have hddl : (b.dd (askN b)).last = lp := by
   show ((plN (namedX (keptO (askN b) b b.ops.length) b.last) b.last.toNat : Nat) : Int) = _
   rw [show namedX (keptO (askN b) b b.ops.length) b.last = namedX b.ops b.last from funext hres, hpl, ← hlp]
  have hdde : (b.dd (askN b)).exits = (keptE (namedX b.ops b.last) b.exits).map (trE b to) := by
   show (keptE (namedX (keptO (askN b) b b.ops.length) b.last) b.exits).map (trE b (upk (askN b) b.ops.length)) = _
   rw [show namedX (keptO (askN b) b b.ops.length) b.last = namedX b.ops b.last from funext hres, hto]
  rw [hddo, hddl, hdde]
  refine lpc.rel [0, 5, 6, 7, 8, 44, 45, 46] (fun m ρ h' => ∃ (k : Nat) (vo : AV) (h2 : Heap), m = b.ops.length - k ∧ k ≤ b.ops.length ∧ Own 1 (Ab.upd h b8 ⟨[vp, vo, .nils, .int .i64 lp], 0⟩) vp (wds b.pcs) b.pcs.length h2 ∧ Own 6 h2 vo (((keptO (askN b) b k).map (reX pl)).flatMap IOp.cells) ((keptO (askN b) b k).map (reX pl)).length h' ∧
   ρ = [(0, bkP b), (5, .cp [boolsV (askN b) b.ops.length, boolsV (namedX b.ops b.last) b.exits.length] 0), (6, ints to), (7, ints xs), (8, .ptr b8 0), (44, ops b.ops), (45, .int .i64 (b.ops.length : Int)), (46, .int .i64 (k : Int))]) ⟨_, 0, .nils, _, rfl, by omega, o1', .nil, rfl⟩ ?_
  rintro m _ h3 ⟨k, vo, h2, rfl, hk, p1, p2, rfl⟩
  by_cases hk2 : k < b.ops.length
  ·have hget : (((List.range b.ops.length).map (askN b)).map AV.bool)[k]? = some (.bool (askN b k)) := by simp [hk2]
   have hsu := keptO_succ (askN b) b k
   have hkl : ((keptO (askN b) b k).map (reX pl)).length ≤ k := by rw [List.length_map, keptO_len]; exact plN_le _ _
   have hO : b.ops.getD k IOp.zero = b.op k := rfl
   have k8 := upd_same h b8 ⟨[vp, vo, .nils, .int .i64 lp], 0⟩
   have j8 := p2.get (p1.get k8)
   simp (disch := omega) only [push_cast, simprocAttr, wrap_i64, toNat_ofInt64, Nat.min_eq_left, Int.toNat_of_nonneg, hk2, hO]
   intro c' hc'
   rw [era_none hc']
   simp (disch := omega) only [push_cast, simprocAttr, wrap_i64, toNat_ofInt64, Nat.min_eq_left, Int.toNat_of_nonneg, hk2, hget]
   refine ⟨fun hm => ?_, fun hm => ?_⟩
   ·rw [hm, if_pos rfl, hto] at hsu
    have hg := good_of (hops k hk2)
    have hb : ∀ x, vin b.ops k x → 0 ≤ x ∧ x < to.length := fun x ⟨a, _, c, _⟩ => ⟨a, by rw [hul]; exact c⟩
    have hR : renOK to (b.op k) := ⟨fun h => ⟨hb _ (hg.1 h).1, hb _ (hg.1 h).2⟩, fun h => hb _ (hg.2 h)⟩
    have hxx : ∀ x, takes (b.op k) x → 0 ≤ x ∧ x < xs.length := fun x h => by rw [hxl]; exact (exit_parts (opR_takes (hops k hk2) h)).1
    have h6 : (b.op k).code ≤ 6 := by
     have := hkd k hk2
     change kindN (b.op k) = true at this
     unfold kindN at this
     simp only at this
     (repeat' split at this) <;> first | omega | (cases this)
    have hD := fun H => ddop_spec (G := G) (h := H) (b.op k) to xs hR (fun h => hxx _ (.inl ⟨by omega, rfl⟩)) (fun h => hxx _ (.inr ⟨h, rfl⟩)) pl (fun x h0 h1 => by rw [← hxs, upk_get (by omega), hpl]) h6
    simp (disch := omega) only [push_cast, simprocAttr, wrap_i64, toNat_ofInt64, Nat.min_eq_left, Int.toNat_of_nonneg, j8]
    refine (hD _).to ?_
    simp (disch := omega) only [push_cast, simprocAttr, wrap_i64, toNat_ofInt64, Nat.min_eq_left, Int.toNat_of_nonneg, j8]
    refine Own.app p2 (m := 1) (IOp.len _) (by omega) (by omega) fun v5 h5 o5 => ?_
    have j85 := o5.get (p1.get k8)
    have hone5 := o5.one
    simp (disch := omega) only [push_cast, simprocAttr, wrap_i64, toNat_ofInt64, Nat.min_eq_left, Int.toNat_of_nonneg, j85, hone5]
    have p1' := p1.upd (b := b8) (x := ⟨[vp, v5, .nils, .int .i64 lp], 0⟩) (.inr ⟨_, k8⟩)
    rw [upd_upd] at p1'
    have o5' := o5.upd (b := b8) (x := ⟨[vp, v5, .nils, .int .i64 lp], 0⟩) (.inr ⟨_, p1.get k8⟩)
    refine ⟨_, _, by omega, .refl _, k + 1, v5, _, rfl, by omega, p1', ?_, rfl⟩
    rw [hsu, List.map_append, List.flatMap_append, List.length_append]
    simpa using o5'
   ·rw [hm, if_neg (by simp)] at hsu
    exact ⟨_, _, by omega, .refl _, k + 1, vo, h2, rfl, by omega, p1, by rw [hsu]; exact p2, rfl⟩
  ·obtain rfl : k = b.ops.length := by omega
   simp only [push_cast, simprocAttr, hk2]
   generalize (keptO (askN b) b b.ops.length).map (reX pl) = l at *
   have e1 := upd_self (p1.get (upd_same _ _ _))
   rw [← e1] at p2
   have p1' := p1.upd (b := b8) (x := ⟨[vp, ops l, .nils, .int .i64 lp], 0⟩) (.inr ⟨_, upd_same _ _ _⟩)
   rw [upd_upd] at p1'
   refine ⟨_, _, le_trans (Le.cell p2 (cs' := [vp, ops l, .nils, .int .i64 lp]) rfl (fun i => ?_)) (Le.cell p1' (cs' := [.ro (wds b.pcs) b.pcs.length, ops l, .nils, .int .i64 lp]) rfl (fun i => ?_)), ?_⟩
   ·match i with
    | 0 => exact .inl rfl
    | 1 => exact .inr ⟨rfl, rfl⟩
    | 2 => exact .inl rfl
    | 3 => exact .inl rfl
    | i + 4 => exact .inl rfl
   ·match i with
    | 0 => exact .inr ⟨rfl, rfl⟩
    | 1 => exact .inl rfl
    | 2 => exact .inl rfl
    | 3 => exact .inl rfl
    | i + 4 => exact .inl rfl
   clear p1 p2 p1' e1 hddo hddl hdde
   simp only [push_cast, simprocAttr]
   generalize hnm : namedX b.ops b.last = nm at *
   refine lpc.rel [0, 5, 6, 8, 73, 74, 75] (fun m ρ h' => ∃ (k : Nat) (vx : AV), m = b.exits.length - k ∧ k ≤ b.exits.length ∧ ExO (Ab.upd h b8 ⟨[.ro (wds b.pcs) b.pcs.length, ops l, vx, .int .i64 lp], 0⟩) vx (((List.range k).filter nm).map fun n => trE b to (b.exits.getD n IEx.zero)) h' ∧
    ρ = [(0, bkP b), (5, .cp [boolsV (askN b) b.ops.length, boolsV nm b.exits.length] 0), (6, ints to), (8, .ptr b8 0), (73, exs b.exits), (74, .int .i64 (b.exits.length : Int)), (75, .int .i64 (k : Int))]) ⟨_, 0, .nils, rfl, by omega, ⟨_, [], .nil, .nil⟩, rfl⟩ ?_
   rintro m _ h4 ⟨k, vx, rfl, hk, hx, rfl⟩
   have k8 := upd_same h b8 ⟨[.ro (wds b.pcs) b.pcs.length, ops l, vx, .int .i64 lp], 0⟩
   have j8 := hx.sub _ _ k8
   by_cases hk3 : k < b.exits.length
   ·have hget : (((List.range b.exits.length).map nm).map AV.bool)[k]? = some (.bool (nm k)) := by simp [hk3]
    have hml := getD_map (n := k) hs3
    have hD := fun H => ddexit_spec' (G := G) (h := H) b (b.exits.getD k IEx.zero) to hul (exOK_of (hexs k hk3) hul) hml
    have hsu : ((List.range (k + 1)).filter nm).map (fun n => trE b to (b.exits.getD n IEx.zero)) = if nm k then ((List.range k).filter nm).map (fun n => trE b to (b.exits.getD n IEx.zero)) ++ [trE b to (b.exits.getD k IEx.zero)] else ((List.range k).filter nm).map (fun n => trE b to (b.exits.getD n IEx.zero)) := by
     rw [List.range_succ, List.filter_append, List.map_append]
     cases hm : nm k <;> simp [hm]
    have hel : (((List.range k).filter nm).map fun n => trE b to (b.exits.getD n IEx.zero)).length ≤ k := by rw [List.length_map]; exact Nat.le_trans (List.length_filter_le _ _) (by simp)
    generalize hE : b.exits.getD k IEx.zero = e at *
    generalize ((List.range k).filter nm).map (fun n => trE b to (b.exits.getD n IEx.zero)) = es at *
    simp (disch := omega) only [push_cast, simprocAttr, wrap_i64, toNat_ofInt64, Nat.min_eq_left, Int.toNat_of_nonneg, hk3, hE]
    intro c' hc'
    rw [era_none hc']
    simp (disch := omega) only [push_cast, simprocAttr, wrap_i64, toNat_ofInt64, Nat.min_eq_left, Int.toNat_of_nonneg, hk3, hget]
    refine ⟨fun hm => ?_, fun hm => ?_⟩
    ·rw [hm, if_pos rfl] at hsu
     simp (disch := omega) only [push_cast, simprocAttr, wrap_i64, toNat_ofInt64, Nat.min_eq_left, Int.toNat_of_nonneg, j8]
     refine (hD _).mono ?_
     rintro _ h6 ⟨w, rfl, ow⟩
     obtain ⟨g1, cs, q1, q2⟩ := hx.snoc ow
     have hcx : exC (trE b to e) w = [.int .i64 (trE b to e).done, .int .u32 ((trE b to e).pc.toNat : Int), .int .i64 (trE b to e).to, .int .i64 (trE b to e).why, w] := rfl
     have hw1 := ow.one
     rw [hcx]
     have j86 := ow.get j8
     simp (disch := omega) only [push_cast, simprocAttr, wrap_i64, toNat_ofInt64, Nat.min_eq_left, Int.toNat_of_nonneg, hw1, j86]
     refine Own.app q1 (m := 1) rfl (by omega) (by omega) fun v5 h5 o5 => ?_
     have hx5 := q2 v5 h5 (by rw [hcx]; exact o5)
     have j85 := hx5.sub _ _ k8
     have hone5 := o5.one
     simp (disch := omega) only [push_cast, simprocAttr, wrap_i64, toNat_ofInt64, Nat.min_eq_left, Int.toNat_of_nonneg, j85, hone5]
     have hx6 := hx5.upd (b := b8) (x := ⟨[.ro (wds b.pcs) b.pcs.length, ops l, v5, .int .i64 lp], 0⟩) (.inr ⟨_, k8⟩)
     rw [upd_upd] at hx6
     exact ⟨_, _, by omega, .refl _, k + 1, v5, rfl, by omega, by rw [hsu]; exact hx6, rfl⟩
    ·rw [hm, if_neg (by simp)] at hsu
     exact ⟨_, _, by omega, .refl _, k + 1, vx, rfl, by omega, by rw [hsu]; exact hx, rfl⟩
   ·obtain rfl : k = b.exits.length := by omega
    simp only [push_cast, simprocAttr, hk3]
    refine wkQ.same ?_
    simp only [push_cast, simprocAttr]
    refine ⟨b8, _, vx, rfl, h80, sub_upd h80 (.refl _), k8, ?_⟩
    have he : (keptE nm b.exits).map (trE b to) = ((List.range b.exits.length).filter nm).map fun n => trE b to (b.exits.getD n IEx.zero) := by
     unfold keptE; rw [List.map_map]; rfl
    rw [he]
    exact hx
 ·rintro _ _ ⟨b8, g, vx, rfl, h8, hs, hg, hx⟩
  exact ⟨_, _, ⟨rfl, rfl⟩, le_tup1 (exo_le (b := b.dd (askN b)) hs h8 hg hx)⟩
end Go.Ab
end
section
namespace Go.Ab
theorem smT_sum (es : List IEx) : ∀ n, n ≤ es.length → smT es n = ((List.range n).map fun i => (es.getD i IEx.zero).map.length).sum := by
 intro n
 induction n with
 | zero => intro _; rfl
 | succ n ih =>
  intro hn
  rw [smT, ih (by omega), List.range_succ, List.map_append, List.sum_append]
  simp
theorem sum_filter_le (nm : Nat → Bool) (f g : Nat → Nat) (hfg : ∀ i, f i ≤ g i) : ∀ l : List Nat, ((l.filter nm).map f).sum ≤ (l.map g).sum := by
 intro l
 induction l with
 | nil => simp
 | cons a l ih =>
  have := hfg a
  rw [List.filter_cons]
  split
  ·simp only [List.map_cons, List.sum_cons]; omega
  ·simp only [List.map_cons, List.sum_cons]; omega
theorem smT_all (es : List IEx) : smT es es.length = (es.map fun e => e.map.length).sum := by
 rw [smT_sum es _ (Nat.le_refl _)]
 congr 1
 apply List.ext_getElem
 ·simp
 ·intro i h1 h2
  have hi : i < es.length := by simpa using h2
  simp [hi]
theorem kept_sm (nm : Nat → Bool) (es : List IEx) (tr : IEx → IEx) (ht : ∀ e, (tr e).map.length ≤ e.map.length) : smT ((keptE nm es).map tr) ((keptE nm es).map tr).length ≤ smT es es.length := by
 rw [smT_all, smT_sum es _ (Nat.le_refl _)]
 unfold keptE
 rw [List.map_map, List.map_map]
 exact sum_filter_le nm _ _ (fun i => ht _) _
structure NoL (b' b : IBk) : Prop where
 pcs : b'.pcs = b.pcs
 ops : b'.ops.length ≤ b.ops.length
 exits : b'.exits.length ≤ b.exits.length
 map : ∀ e ∈ b'.exits, ∃ e' ∈ b.exits, e.map.length ≤ e'.map.length
 size : b'.size ≤ b.size
theorem NoL.refl (b : IBk) : NoL b b := ⟨rfl, Nat.le_refl _, Nat.le_refl _, fun e h => ⟨e, h, Nat.le_refl _⟩, Nat.le_refl _⟩
theorem NoL.trans {a b c : IBk} (h1 : NoL a b) (h2 : NoL b c) : NoL a c :=
 ⟨h1.pcs.trans h2.pcs, Nat.le_trans h1.ops h2.ops, Nat.le_trans h1.exits h2.exits, fun e he => by
  obtain ⟨e', q1, q2⟩ := h1.map e he
  obtain ⟨e2, q3, q4⟩ := h2.map e' q1
  exact ⟨e2, q3, Nat.le_trans q2 q4⟩, Nat.le_trans h1.size h2.size⟩
theorem NoL.wf {b' b : IBk} (h : NoL b' b) (hw : b.wf) : b'.wf := by
 obtain ⟨h1, h2, h3, h4, h5, h6, h7, h8⟩ := hw
 have e1 := h.ops
 have e2 := h.exits
 have e3 := h.pcs
 refine ⟨by rw [e3]; exact h1, by omega, by omega, fun e he => ?_, by rw [e3]; exact h5, by omega, by omega, fun e he => ?_⟩
 all_goals
  obtain ⟨e', q1, q2⟩ := h.map e he
  have a := h4 e' q1
  have b := h8 e' q1
  omega
theorem ps_nol (f : Rw) (b : IBk) : NoL (b.ps f) b := by
 have hll := psN_l f b.ops
 have hx : (b.ps f).exits = b.exits.map (renE (psN f b.ops).to) := rfl
 have hren : ∀ e, (renE (psN f b.ops).to e).map.length = e.map.length := fun e => by simp [renE]
 have hsm : smT (b.ps f).exits (b.ps f).exits.length = smT b.exits b.exits.length := by
  rw [smT_all, smT_all, hx, List.map_map]
  congr 1
  refine List.map_congr_left fun e _ => hren e
 refine ⟨rfl, hll, by rw [hx, List.length_map]; exact Nat.le_refl _, fun e he => ?_, ?_⟩
 ·rw [hx, List.mem_map] at he
  obtain ⟨e', q1, rfl⟩ := he
  exact ⟨e', q1, by rw [hren]; exact Nat.le_refl _⟩
 ·unfold IBk.size
  have : (b.ps f).ops.length ≤ b.ops.length := hll
  have e2 : (b.ps f).exits.length = b.exits.length := by rw [hx, List.length_map]
  omega
theorem pr_nol {b : IBk} {l : List IOp} {last : Int} {tr : IEx → IEx} (hl : l.length ≤ b.ops.length) (ht : ∀ e, (tr e).map.length ≤ e.map.length) : NoL (prB b.pcs l b.exits last tr) b := by
 have hx : (prB b.pcs l b.exits last tr).exits = (keptE (namedX l last) b.exits).map tr := rfl
 have ho : (prB b.pcs l b.exits last tr).ops.length = l.length := by simp [prB]
 have hk : ((keptE (namedX l last) b.exits).map tr).length ≤ b.exits.length := by rw [List.length_map, kept_len]; exact plN_le _ _
 have hsm := kept_sm (namedX l last) b.exits tr ht
 refine ⟨rfl, by omega, by rw [hx]; exact hk, fun e he => ?_, ?_⟩
 ·rw [hx, List.mem_map] at he
  obtain ⟨e', q1, rfl⟩ := he
  unfold keptE at q1
  rw [List.mem_map] at q1
  obtain ⟨n, q2, rfl⟩ := q1
  rw [List.mem_filter, List.mem_range] at q2
  refine ⟨b.exits.getD n IEx.zero, ?_, ht _⟩
  rw [List.getD_eq_getElem?_getD, List.getElem?_eq_getElem q2.1]
  simp
 ·unfold IBk.size
  rw [hx] at *
  omega
theorem gd_nol {b : IBk} (hc : b.check = 0) : NoL b.gd b := by
 obtain ⟨m, hm, e1, e2⟩ := gScan_at b.ops b.last b.ops.length 0 (by omega)
 rw [List.drop_zero, List.take_zero] at e1
 have e0 : psN gF [] = ⟨[], []⟩ := rfl
 rw [e0] at e1
 unfold IBk.gd
 refine pr_nol ?_ fun e => by simp [renE]
 rw [e1]
 have := psN_l gF (b.ops.take m)
 rw [List.length_take] at this
 omega
theorem dd_nol (b : IBk) (kp : Nat → Bool) : NoL (b.dd kp) b := by
 unfold IBk.dd
 refine pr_nol (by rw [keptO_len]; exact plN_le _ _) fun e => ?_
 unfold trE renE
 simp only [List.length_map]
 exact List.length_filter_le _ _
noncomputable def passN (bit : Int) (b : IBk) : IBk := if bit = 1 then b.ps foldF else if bit = 2 then b.ps numF else if bit = 4 then b.gd else b.dd (askN b)
theorem passN_ok (bit : Int) {b : IBk} (hc : b.check = 0) : (passN bit b).check = 0 ∧ NoL (passN bit b) b ∧ ∀ regs : List (BitVec 32), regs.length = 32 → ∀ M, (passN bit b).res regs M = b.res regs M := by
 unfold passN
 split
 ·exact ⟨ps_check fold_ok hc, ps_nol _ _, fun regs _ M => fold_res hc regs M⟩
 split
 ·exact ⟨ps_check num_ok hc, ps_nol _ _, fun regs _ M => num_res hc regs M⟩
 split
 ·exact ⟨gd_check hc, gd_nol hc, fun regs _ M => gd_res hc regs M⟩
 ·exact ⟨dd_check hc (askN_ok b hc), dd_nol _ _, fun regs _ M => dd_res hc (askN_ok b hc) regs M⟩
def kAnd (mask bit : Int) : Int := IntKind.i64.wrap ((BitVec.ofInt 64 mask &&& BitVec.ofInt 64 bit).toNat : Int)
def bitM (mask bit : Int) : Bool := decide (kAnd mask bit ≠ 0)
noncomputable def roundK (mask : Int) (b : IBk) : List Int → IBk
 | [] => b
 | bit :: r => roundK mask (if bitM mask bit then passN bit b else b) r
noncomputable def roundN (mask : Int) (b : IBk) : IBk := roundK mask b [1, 2, 4, 8]
noncomputable def runP (mask : Int) : Nat → IBk → IBk
 | 0, b => b
 | n + 1, b => if roundN mask b = b then roundN mask b else runP mask n (roundN mask b)
structure Kps (b' b : IBk) : Prop where
 check : b'.check = 0
 nol : NoL b' b
 res : ∀ regs : List (BitVec 32), regs.length = 32 → ∀ M, b'.res regs M = b.res regs M
theorem Kps.refl {b : IBk} (hc : b.check = 0) : Kps b b := ⟨hc, .refl b, fun _ _ _ => rfl⟩
theorem Kps.trans {a b c : IBk} (h1 : Kps a b) (h2 : Kps b c) : Kps a c := ⟨h1.check, h1.nol.trans h2.nol, fun regs hl M => (h1.res regs hl M).trans (h2.res regs hl M)⟩
theorem pass_kps (bit : Int) {b : IBk} (hc : b.check = 0) : Kps (passN bit b) b := by
 obtain ⟨h1, h2, h3⟩ := passN_ok bit hc
 exact ⟨h1, h2, h3⟩
theorem roundK_kps (mask : Int) : ∀ (l : List Int) {b : IBk}, b.check = 0 → Kps (roundK mask b l) b := by
 intro l
 induction l with
 | nil => intro b hc; exact .refl hc
 | cons bit r ih =>
  intro b hc
  rw [roundK]
  split
  ·have h := pass_kps bit hc
   exact (ih h.check).trans h
  ·exact ih hc
theorem round_kps (mask : Int) {b : IBk} (hc : b.check = 0) : Kps (roundN mask b) b := roundK_kps mask _ hc
theorem run_kps (mask : Int) : ∀ (n : Nat) {b : IBk}, b.check = 0 → Kps (runP mask n b) b := by
 intro n
 induction n with
 | zero => intro b hc; exact .refl hc
 | succ n ih =>
  intro b hc
  have h := round_kps mask hc
  rw [runP]
  split
  ·exact h
  ·exact (ih h.check).trans h
theorem fw_kps {b : IBk} (hc : b.check = 0) : Kps b.fw b := by
 refine ⟨?_, ?_, fun regs _ M => fw_res hc regs M⟩
 ·rw [fw_eq]; exact ps_check fwF_ok hc
 ·rw [fw_eq]; exact ps_nol _ _
end Go.Ab
end
section
namespace Go.Ab
open Go.Proofs
variable {G : Glo} {h : Heap}
theorem pone_spec (bit : Int) (b : IBk) (hw : b.wf) (hc : b.check = 0) : Spec Tryz.prog G 33 [.int .i64 bit, bkP b] h (Is (.tup [bkP (passN bit b), .int .i64 0]) h) := by
 unfold passN
 refine Spec.is C33ok rfl ?_
 by_cases c1 : bit = 1
 ·subst c1
  simp only [push_cast, simprocAttr]
  refine (foldDo_spec b hw hc).to ?_
  simp only [push_cast, simprocAttr]
  try rfl
 by_cases c2 : bit = 2
 ·subst c2
  simp only [push_cast, simprocAttr]
  refine (numDo_spec b hw hc).to ?_
  simp only [push_cast, simprocAttr]
  try rfl
 by_cases c4 : bit = 4
 ·subst c4
  simp only [push_cast, simprocAttr]
  refine (guardDo_spec b hw hc).to ?_
  simp only [push_cast, simprocAttr]
  try rfl
 ·rw [if_neg c1, if_neg c2, if_neg c4]
  simp only [push_cast, simprocAttr, c1, c2, c4]
  refine (deadDo_spec b hw hc).to ?_
  simp only [push_cast, simprocAttr]
  try rfl
theorem bits_each {mask : Int} {H : Heap} {l : Nat} (hy : YOk Tryz.prog G) (J : Nat → Heap → Prop)
  (hJ : ∀ k h1 (Q : AV → Heap → Prop), k < 4 → bitM mask ([1, 2, 4, 8].getD k 0) = true → J k h1 → (∀ h2, J (k + 1) h2 → Q (.bool true) h2) → G.y l [.int .i64 ([1, 2, 4, 8].getD k 0)] h1 Q)
  (hN : ∀ k h1, k < 4 → bitM mask ([1, 2, 4, 8].getD k 0) = false → J k h1 → J (k + 1) h1) (h0 : J 0 H) :
  Spec Tryz.prog G 65 [.yl l, .cp [.int .i64 mask] 0] H (fun r h2 => r = .tup [] ∧ J 4 h2) := by
 refine Spec.walk C65ok rfl ?_
 simp only [push_cast, simprocAttr]
 refine lpc.rel [0, 1, 3] (fun m ρ H' => ∃ k : Nat, m = 4 - k ∧ k ≤ 4 ∧ J k H' ∧ ρ = [(0, .yl l), (1, .cp [.int .i64 mask] 0), (3, .int .i64 (2 ^ k : Nat))]) ⟨_, 0, rfl, by omega, h0, rfl⟩ ?_
 rintro m _ H' ⟨k, rfl, hk, hj, rfl⟩
 have hJk := fun Q => hJ k H' Q
 have hNk := hN k H'
 have ha : ∀ x, abin BinOp.and (.int .i64 mask) (.int .i64 x) = some (.int .i64 (kAnd mask x)) := fun _ => rfl
 match k, hk with
 | 0, _ =>
  have hb : bitM mask ([1, 2, 4, 8].getD 0 0) = decide (kAnd mask 1 ≠ 0) := rfl
  have hbd : ([1, 2, 4, 8] : List Int).getD 0 0 = 1 := rfl
  rw [hb] at hJk hNk
  rw [hbd] at hJk
  generalize hv : kAnd mask 1 = v at *
  by_cases c : v = 0
  ·simp only [push_cast, simprocAttr, ha, hv, c]
   exact ⟨_, _, by omega, .refl _, 1, rfl, by omega, hNk (by omega) (by simp [c]) hj, rfl⟩
  ·simp only [push_cast, simprocAttr, ha, hv, c]
   refine ⟨hy, hJk _ (by omega) (by simp [c]) hj fun h2 hj2 => ?_⟩
   simp only [push_cast, simprocAttr]
   exact ⟨_, _, by omega, .refl _, 1, rfl, by omega, hj2, rfl⟩
 | 1, _ =>
  have hb : bitM mask ([1, 2, 4, 8].getD 1 0) = decide (kAnd mask 2 ≠ 0) := rfl
  have hbd : ([1, 2, 4, 8] : List Int).getD 1 0 = 2 := rfl
  rw [hb] at hJk hNk
  rw [hbd] at hJk
  generalize hv : kAnd mask 2 = v at *
  by_cases c : v = 0
  ·simp only [push_cast, simprocAttr, ha, hv, c]
   exact ⟨_, _, by omega, .refl _, 2, rfl, by omega, hNk (by omega) (by simp [c]) hj, rfl⟩
  ·simp only [push_cast, simprocAttr, ha, hv, c]
   refine ⟨hy, hJk _ (by omega) (by simp [c]) hj fun h2 hj2 => ?_⟩
   simp only [push_cast, simprocAttr]
   exact ⟨_, _, by omega, .refl _, 2, rfl, by omega, hj2, rfl⟩
 | 2, _ =>
  have hb : bitM mask ([1, 2, 4, 8].getD 2 0) = decide (kAnd mask 4 ≠ 0) := rfl
  have hbd : ([1, 2, 4, 8] : List Int).getD 2 0 = 4 := rfl
  rw [hb] at hJk hNk
  rw [hbd] at hJk
  generalize hv : kAnd mask 4 = v at *
  by_cases c : v = 0
  ·simp only [push_cast, simprocAttr, ha, hv, c]
   exact ⟨_, _, by omega, .refl _, 3, rfl, by omega, hNk (by omega) (by simp [c]) hj, rfl⟩
  ·simp only [push_cast, simprocAttr, ha, hv, c]
   refine ⟨hy, hJk _ (by omega) (by simp [c]) hj fun h2 hj2 => ?_⟩
   simp only [push_cast, simprocAttr]
   exact ⟨_, _, by omega, .refl _, 3, rfl, by omega, hj2, rfl⟩
 | 3, _ =>
  have hb : bitM mask ([1, 2, 4, 8].getD 3 0) = decide (kAnd mask 8 ≠ 0) := rfl
  have hbd : ([1, 2, 4, 8] : List Int).getD 3 0 = 8 := rfl
  rw [hb] at hJk hNk
  rw [hbd] at hJk
  generalize hv : kAnd mask 8 = v at *
  by_cases c : v = 0
  ·simp only [push_cast, simprocAttr, ha, hv, c]
   exact ⟨_, _, by omega, .refl _, 4, rfl, by omega, hNk (by omega) (by simp [c]) hj, rfl⟩
  ·simp only [push_cast, simprocAttr, ha, hv, c]
   refine ⟨hy, hJk _ (by omega) (by simp [c]) hj fun h2 hj2 => ?_⟩
   simp only [push_cast, simprocAttr]
   exact ⟨_, _, by omega, .refl _, 4, rfl, by omega, hj2, rfl⟩
 | 4, _ =>
  simp only [push_cast, simprocAttr]
  exact hj
end Go.Ab
end
section
namespace Go.Ab
open Go.Proofs
variable {G : Glo} {h : Heap}
theorem era_upd_none {h : Heap} {b : Nat} {x : Blk} (hb : h b = none) : era (Ab.upd h b x) b = h := by
 funext d
 simp only [era, Ab.upd]
 by_cases e : d = b
 ·rw [if_pos e, e, hb]
 ·rw [if_neg e, if_neg e]
theorem CloneIs_spec (b : IBk) (hw : b.wf) : Spec Tryz.prog G 31 [bkP b] h (Is (bkP b) h) := by
 refine Spec.weak (Clone_spec b hw) ?_
 rintro _ h1 ⟨c, g, vx, rfl, hn, hs, hg, hx⟩
 exact ⟨_, _, ⟨rfl, rfl⟩, exo_le hs hn hg hx⟩
theorem bitsFn_spec (mask : Int) : Spec Tryz.prog G 32 [.int .i64 mask] h (Is (.fn 65 [] [.cp [.int .i64 mask] 0]) h) := by
 refine Spec.is C32ok rfl ?_
 simp only [push_cast, simprocAttr]
noncomputable def roundJ (mask : Int) (b : IBk) (k : Nat) : IBk := roundK mask b ([1, 2, 4, 8].take k)
theorem roundJ_succ (mask : Int) (b : IBk) (k : Nat) (hk : k < 4) : roundJ mask b (k + 1) = if bitM mask ([1, 2, 4, 8].getD k 0) then passN ([1, 2, 4, 8].getD k 0) (roundJ mask b k) else roundJ mask b k := by
 match k, hk with
 | 0, _ => rfl
 | 1, _ => rfl
 | 2, _ => rfl
 | 3, _ => rfl
theorem Round_spec (b : IBk) (mask : Int) (hw : b.wf) (hc : b.check = 0) : Spec Tryz.prog G 10 [bkP b, .int .i64 mask] h (Is (.tup [bkP (roundN mask b), .int .i64 0]) h) := by
 refine Spec.weak (Q := fun r h' => Sub h h' ∧ r = .tup [bkP (roundN mask b), .int .i64 0]) ?_ ?_
 ·refine Spec.walkR C10ok rfl ?_
  simp only [push_cast, simprocAttr]
  intro b4 hb4 b5 hb5
  refine (Check_spec b hw).to ?_
  rw [hc]
  simp only [push_cast, simprocAttr]
  refine (CloneIs_spec b hw).to ?_
  simp only [push_cast, simprocAttr]
  intro b7 hb7
  refine (bitsFn_spec mask).to ?_
  simp only [push_cast, simprocAttr]
  refine rfV_fn ⟨_, C65ok.hf, rfl, rfl⟩ ?_
  intro l r e hl hr1 hr2 hy
  obtain ⟨n1, n2, n3, hl0⟩ := fresh3 hl
  obtain ⟨m1, m2, hb70⟩ := fresh2 hb7
  obtain ⟨p1, hb50⟩ := fresh1 hb5
  refine (bits_each (mask := mask) hy (fun k H => H = Ab.upd (Ab.upd (Ab.upd (Ab.upd h b4 ⟨[.nilp], 0⟩) b5 ⟨[.int .i64 0], 0⟩) b7 ⟨[bkP (roundJ mask b k)], 0⟩) l (lpB r)) ?_ ?_ ?_).mono ?_
  ·rintro k _ Q hk hm rfl hQ
   have hkp := roundK_kps mask ([1, 2, 4, 8].take k) hc
   have hj := roundJ_succ mask b k hk
   rw [hm, if_pos rfl] at hj
   change Kps (roundJ mask b k) b at hkp
   have gl := upd_same (Ab.upd (Ab.upd (Ab.upd h b4 ⟨[.nilp], 0⟩) b5 ⟨[.int .i64 0], 0⟩) b7 ⟨[bkP (roundJ mask b k)], 0⟩) l (lpB r)
   refine ⟨rfl, rfl, gl, ?_⟩
   simp only [List.zip_cons_cons, List.zip_nil_right, List.reverse_cons, List.reverse_nil, List.nil_append, List.cons_append]
   have g7 : Ab.upd (Ab.upd (Ab.upd (Ab.upd h b4 ⟨[.nilp], 0⟩) b5 ⟨[.int .i64 0], 0⟩) b7 ⟨[bkP (roundJ mask b k)], 0⟩) l (lpB (lpBusy r)) b7 = some ⟨[bkP (roundJ mask b k)], 0⟩ := by rw [upd_ne (Ne.symm n1)]; exact upd_same _ _ _
   generalize hB : roundJ mask b k = b1 at *
   simp only [push_cast, simprocAttr, g7, gl]
   refine (pone_spec (G := G) _ b1 (hkp.nol.wf hw) hkp.check).to ?_
   have g7' : ∀ X, Ab.upd (Ab.upd (Ab.upd (Ab.upd (Ab.upd h b4 ⟨[.nilp], 0⟩) b5 ⟨[.int .i64 0], 0⟩) b7 ⟨[bkP b1], 0⟩) l (lpB (lpBusy r))) b7 X l = some (lpB (lpBusy r)) := fun X => by rw [upd_ne n1]; exact upd_same _ _ _
   simp only [push_cast, simprocAttr, g7, g7']
   refine hQ _ ?_
   rw [hj, upd_comm (b := l) (c := b7) n1, upd_upd, upd_upd]
  ·rintro k _ hk hm rfl
   rw [roundJ_succ mask b k hk, hm, if_neg (by simp)]
  ·rfl
  ·rintro r2 _ ⟨rfl, rfl⟩
   refine .inl ⟨upd_same _ _ _, ?_⟩
   rw [era_upd_none (show (Ab.upd (Ab.upd (Ab.upd h b4 ⟨[.nilp], 0⟩) b5 ⟨[.int .i64 0], 0⟩) b7 ⟨[bkP (roundJ mask b 4)], 0⟩) l = none by rw [upd_ne n1, upd_ne n2, upd_ne n3]; exact hl0)]
   have k4 : ∀ X, Ab.upd (Ab.upd (Ab.upd h b4 ⟨[.nilp], 0⟩) b5 ⟨[.int .i64 0], 0⟩) b7 X b4 = some ⟨[.nilp], 0⟩ := fun X => by rw [upd_ne (Ne.symm m2), upd_ne (Ne.symm p1)]; exact upd_same _ _ _
   simp only [push_cast, simprocAttr, upd_at, k4, p1, m1, m2, Ne.symm p1, Ne.symm m1, Ne.symm m2]
   exact ⟨sub_upd hb50 (sub_upd hb4 (sub_upd hb70 (sub_upd hb50 (sub_upd hb4 (.refl _))))), rfl⟩
 ·rintro _ h' ⟨hs, rfl⟩
  exact ⟨_, _, ⟨rfl, rfl⟩, le_sub hs (Le.refl _ _)⟩
end Go.Ab
end
section
namespace Go.Ab
open Go.Proofs
variable {G : Glo} {h : Heap}
theorem eqP_spec (a b : List (BitVec 32)) (hl : a.length ≤ 1000000000000) : Spec Tryz.prog G 72 [.ro (wds a) a.length, .ro (wds b) b.length] h (Is (.bool (decide (a = b))) h) := by
 refine Spec.is C72ok rfl ?_
 by_cases h1 : a.length = b.length
 ·have h1' : (a.length : Int) = b.length := by omega
  simp (disch := omega) only [push_cast, simprocAttr, wrap_i64, toNat_ofInt64, Nat.min_eq_left, Int.toNat_of_nonneg, h1]
  refine lpc.rel [0, 1, 12, 13] (fun m ρ h' => ∃ k : Nat, m = a.length - k ∧ k ≤ a.length ∧ h = h' ∧ (∀ i, i < k → a.getD i 0#32 = b.getD i 0#32) ∧
   ρ = [(0, .ro (wds a) b.length), (1, .ro (wds b) b.length), (12, .int .i64 (b.length : Int)), (13, .int .i64 (k : Int))]) ⟨_, 0, rfl, by omega, rfl, by intro i hi; omega, rfl⟩ ?_
  rintro m _ _ ⟨k, rfl, hk, rfl, hall, rfl⟩
  by_cases hk2 : k < a.length
  ·have hk3 : k < b.length := by omega
   simp (disch := omega) only [push_cast, simprocAttr, wrap_i64, toNat_ofInt64, Nat.min_eq_left, Int.toNat_of_nonneg, hk2, hk3]
   refine ⟨fun hv => ?_, fun hv => ?_⟩
   ·rw [decide_eq_false (fun e => by rw [e] at hv; simp at hv)]
   ·refine ⟨_, _, by omega, .refl _, k + 1, rfl, by omega, rfl, fun i hi => ?_, rfl⟩
    by_cases hik : i = k
    ·subst hik; first | exact hv | simpa using hv
    ·exact hall i (by omega)
  ·obtain rfl : k = a.length := by omega
   have hk3 : ¬ a.length < b.length := by omega
   simp only [push_cast, simprocAttr, hk2, hk3]
   rw [decide_eq_true (getD_ext 0#32 h1 hall)]
 ·have h2 : ¬ (a.length : Int) = b.length := by omega
  simp only [push_cast, simprocAttr, h1, h2]
  rw [decide_eq_false (fun e => h1 (by rw [e]))]
theorem eqO_spec (a b : List IOp) (hl : a.length ≤ 1000000000000) : Spec Tryz.prog G 73 [ops a, ops b] h (Is (.bool (decide (a = b))) h) := by
 refine Spec.is C73ok rfl ?_
 by_cases h1 : a.length = b.length
 ·have h1' : (a.length : Int) = b.length := by omega
  simp (disch := omega) only [push_cast, simprocAttr, wrap_i64, toNat_ofInt64, Nat.min_eq_left, Int.toNat_of_nonneg, h1]
  refine lpc.rel [0, 1, 12, 13] (fun m ρ h' => ∃ k : Nat, m = a.length - k ∧ k ≤ a.length ∧ h = h' ∧ (∀ i, i < k → a.getD i IOp.zero = b.getD i IOp.zero) ∧
   ρ = [(0, ops a), (1, ops b), (12, .int .i64 (b.length : Int)), (13, .int .i64 (k : Int))]) ⟨_, 0, rfl, by omega, rfl, by intro i hi; omega, rfl⟩ ?_
  rintro m _ _ ⟨k, rfl, hk, rfl, hall, rfl⟩
  by_cases hk2 : k < a.length
  ·have hk3 : k < b.length := by omega
   simp (disch := omega) only [push_cast, simprocAttr, wrap_i64, toNat_ofInt64, Nat.min_eq_left, Int.toNat_of_nonneg, hk2, hk3, op_eqd]
   refine ⟨fun hv => ?_, fun hv => ?_⟩
   ·rw [decide_eq_false (fun e => by rw [e] at hv; simp at hv)]
   ·refine ⟨_, _, by omega, .refl _, k + 1, rfl, by omega, rfl, fun i hi => ?_, rfl⟩
    by_cases hik : i = k
    ·subst hik; first | exact hv | simpa using hv
    ·exact hall i (by omega)
  ·obtain rfl : k = a.length := by omega
   have hk3 : ¬ a.length < b.length := by omega
   simp only [push_cast, simprocAttr, hk2, hk3]
   rw [decide_eq_true (getD_ext IOp.zero h1 hall)]
 ·have h2 : ¬ (a.length : Int) = b.length := by omega
  simp only [push_cast, simprocAttr, h1, h2]
  rw [decide_eq_false (fun e => h1 (by rw [e]))]
theorem eqV_spec (a b : List IVl) (hl : a.length ≤ 1000000000000) : Spec Tryz.prog G 71 [vls a, vls b] h (Is (.bool (decide (a = b))) h) := by
 refine Spec.is C71ok rfl ?_
 by_cases h1 : a.length = b.length
 ·have h1' : (a.length : Int) = b.length := by omega
  simp (disch := omega) only [push_cast, simprocAttr, wrap_i64, toNat_ofInt64, Nat.min_eq_left, Int.toNat_of_nonneg, h1]
  refine lpc.rel [0, 1, 12, 13] (fun m ρ h' => ∃ k : Nat, m = a.length - k ∧ k ≤ a.length ∧ h = h' ∧ (∀ i, i < k → a.getD i IVl.zero = b.getD i IVl.zero) ∧
   ρ = [(0, vls a), (1, vls b), (12, .int .i64 (b.length : Int)), (13, .int .i64 (k : Int))]) ⟨_, 0, rfl, by omega, rfl, by intro i hi; omega, rfl⟩ ?_
  rintro m _ _ ⟨k, rfl, hk, rfl, hall, rfl⟩
  by_cases hk2 : k < a.length
  ·have hk3 : k < b.length := by omega
   simp (disch := omega) only [push_cast, simprocAttr, wrap_i64, toNat_ofInt64, Nat.min_eq_left, Int.toNat_of_nonneg, hk2, hk3, vl_eqd]
   refine ⟨fun hv => ?_, fun hv => ?_⟩
   ·rw [decide_eq_false (fun e => by rw [e] at hv; simp at hv)]
   ·refine ⟨_, _, by omega, .refl _, k + 1, rfl, by omega, rfl, fun i hi => ?_, rfl⟩
    by_cases hik : i = k
    ·subst hik; first | exact hv | simpa using hv
    ·exact hall i (by omega)
  ·obtain rfl : k = a.length := by omega
   have hk3 : ¬ a.length < b.length := by omega
   simp only [push_cast, simprocAttr, hk2, hk3]
   rw [decide_eq_true (getD_ext IVl.zero h1 hall)]
 ·have h2 : ¬ (a.length : Int) = b.length := by omega
  simp only [push_cast, simprocAttr, h1, h2]
  rw [decide_eq_false (fun e => h1 (by rw [e]))]
end Go.Ab
end
section
namespace Go.Ab
open Go.Proofs
variable {G : Glo} {h : Heap}
theorem ex_dec (x y : IEx) : decide (x = y) = (decide (x.done = y.done) && (decide (x.pc = y.pc) && (decide (x.to = y.to) && (decide (x.why = y.why) && decide (x.map = y.map))))) := by
 obtain ⟨a, b, c, d, e⟩ := x
 obtain ⟨a', b', c', d', e'⟩ := y
 rw [Bool.eq_iff_iff]; simp
theorem same1_spec (x y : IEx) (hl : x.map.length ≤ 1000000000000) : Spec Tryz.prog G 70 [.agg x.cells, .agg y.cells] h (Is (.bool (decide (x = y))) h) := by
 have kV := eqV_spec (G := G) (h := h) x.map y.map hl
 rw [ex_dec]
 have e2 : ((x.pc.toNat : Int) == (y.pc.toNat : Int)) = decide (x.pc = y.pc) := by
  rw [Bool.eq_iff_iff, beq_iff_eq, decide_eq_true_eq]
  exact ⟨fun e => BitVec.eq_of_toNat_eq (by omega), fun e => by rw [e]⟩
 have e1 : (x.done == y.done) = decide (x.done = y.done) := rfl
 have e3 : (x.to == y.to) = decide (x.to = y.to) := rfl
 have e4 : (x.why == y.why) = decide (x.why = y.why) := rfl
 generalize decide (x.done = y.done) = B1 at *
 generalize decide (x.pc = y.pc) = B2 at *
 generalize decide (x.to = y.to) = B3 at *
 generalize decide (x.why = y.why) = B4 at *
 refine Spec.is C70ok rfl ?_
 cases B1 with
 | false => simp only [push_cast, simprocAttr, e1]; try rfl
 | true => cases B2 with
  | false => simp only [push_cast, simprocAttr, e1, e2]; try rfl
  | true => cases B3 with
   | false => simp only [push_cast, simprocAttr, e1, e2, e3]; try rfl
   | true => cases B4 with
    | false => simp only [push_cast, simprocAttr, e1, e2, e3, e4]; try rfl
    | true =>
     simp only [push_cast, simprocAttr, e1, e2, e3, e4]
     refine kV.to ?_
     simp only [push_cast, simprocAttr]
     try rfl
theorem eqX_spec (a b : List IEx) (hl : a.length ≤ 1000000000000) (hm : ∀ e ∈ a, e.map.length ≤ 1000000000000) : Spec Tryz.prog G 74 [exs a, exs b, .fn 70 [] []] h (Is (.bool (decide (a = b))) h) := by
 refine Spec.is C74ok rfl ?_
 by_cases h1 : a.length = b.length
 ·simp (disch := omega) only [push_cast, simprocAttr, wrap_i64, toNat_ofInt64, Nat.min_eq_left, Int.toNat_of_nonneg, h1]
  refine lpc.rel [1, 2, 15, 16, 17] (fun m ρ h' => ∃ k : Nat, m = a.length - k ∧ k ≤ a.length ∧ h = h' ∧ (∀ i, i < k → a.getD i IEx.zero = b.getD i IEx.zero) ∧
   ρ = [(1, exs b), (2, .fn 70 [] []), (15, exs a), (16, .int .i64 (b.length : Int)), (17, .int .i64 (k : Int))]) ⟨_, 0, rfl, by omega, rfl, by intro i hi; omega, rfl⟩ ?_
  rintro m _ _ ⟨k, rfl, hk, rfl, hall, rfl⟩
  by_cases hk2 : k < a.length
  ·have hk3 : k < b.length := by omega
   have hml : (a.getD k IEx.zero).map.length ≤ 1000000000000 := by rw [List.getD_eq_getElem?_getD, List.getElem?_eq_getElem hk2]; exact hm _ (by simp)
   generalize hx : a.getD k IEx.zero = x at *
   generalize hy : b.getD k IEx.zero = y at *
   simp (disch := omega) only [push_cast, simprocAttr, wrap_i64, toNat_ofInt64, Nat.min_eq_left, Int.toNat_of_nonneg, hk2, hk3, hx, hy]
   intro c8 hc8
   rw [era_none hc8]
   intro c9 hc9
   rw [era_none hc9]
   refine ⟨⟨_, C70ok.hf, rfl, rfl⟩, (same1_spec x y hml).to ?_⟩
   by_cases hv : x = y
   ·rw [decide_eq_true hv]
    simp (disch := omega) only [push_cast, simprocAttr, wrap_i64, toNat_ofInt64, Nat.min_eq_left, Int.toNat_of_nonneg]
    refine ⟨_, _, by omega, .refl _, k + 1, rfl, by omega, rfl, fun i hi => ?_, rfl⟩
    by_cases hik : i = k
    ·subst hik; rw [hx, hy]; exact hv
    ·exact hall i (by omega)
   ·rw [decide_eq_false hv]
    simp only [push_cast, simprocAttr]
    rw [decide_eq_false (fun e => hv (by rw [← hx, ← hy, e]))]
  ·obtain rfl : k = a.length := by omega
   have hk3 : ¬ a.length < b.length := by omega
   simp only [push_cast, simprocAttr, hk2, hk3]
   rw [decide_eq_true (getD_ext IEx.zero h1 hall)]
 ·have h2 : ¬ (a.length : Int) = b.length := by omega
  simp only [push_cast, simprocAttr, h1, h2]
  rw [decide_eq_false (fun e => h1 (by rw [e]))]
theorem bk_dec (a b : IBk) : decide (a = b) = (decide (a.last = b.last) && (decide (a.pcs = b.pcs) && (decide (a.ops = b.ops) && decide (a.exits = b.exits)))) := by
 obtain ⟨a1, a2, a3, a4⟩ := a
 obtain ⟨b1, b2, b3, b4⟩ := b
 rw [Bool.eq_iff_iff]; simp; constructor <;> (rintro ⟨x, y, z, w⟩; simp_all)
theorem same_spec33 (a b : IBk) (hw : a.wf) : Spec Tryz.prog G 34 [bkP a, bkP b] h (Is (.bool (decide (a = b))) h) := by
 obtain ⟨hs1, hs2, hs3⟩ := hw.hs
 have kP := eqP_spec (G := G) (h := h) a.pcs b.pcs hw.hq
 have kO := eqO_spec (G := G) (h := h) a.ops b.ops hs1
 have kX := eqX_spec (G := G) (h := h) a.exits b.exits hs2 hs3
 rw [bk_dec]
 have e1 : (a.last == b.last) = decide (a.last = b.last) := rfl
 generalize decide (a.last = b.last) = B1 at *
 refine Spec.is C34ok rfl ?_
 cases B1 with
 | false => simp only [push_cast, simprocAttr, e1]; try rfl
 | true =>
  simp only [push_cast, simprocAttr, e1]
  refine kP.to ?_
  cases decide (a.pcs = b.pcs) with
  | false => simp only [push_cast, simprocAttr]; try rfl
  | true =>
   simp only [push_cast, simprocAttr]
   refine kO.to ?_
   cases decide (a.ops = b.ops) with
   | false => simp only [push_cast, simprocAttr]; try rfl
   | true =>
    simp only [push_cast, simprocAttr]
    refine kX.to ?_
    simp only [push_cast, simprocAttr]
    try rfl
end Go.Ab
end
section
namespace Go.Ab
open Go.Proofs
variable {G : Glo} {h : Heap}
theorem Run_spec (b : IBk) (mask : Int) (hw : b.wf) (hc : b.check = 0) : Spec Tryz.prog G 11 [bkP b, .int .i64 mask] h (Is (.tup [bkP (runP mask 8 b), .int .i64 0]) h) := by
 refine Spec.is C11ok rfl ?_
 simp only [push_cast, simprocAttr]
 refine lpc.rel [1, 6, 10] (fun m ρ h' => ∃ (k : Nat) (b1 : IBk), m = 8 - k ∧ k ≤ 8 ∧ h = h' ∧ Kps b1 b ∧ runP mask 8 b = runP mask (8 - k) b1 ∧
  ρ = [(1, .int .i64 mask), (6, bkP b1), (10, .int .i64 (k : Int))]) ⟨_, 0, b, rfl, by omega, rfl, .refl hc, rfl, rfl⟩ ?_
 rintro m _ _ ⟨k, b1, rfl, hk, rfl, hp, hr, rfl⟩
 by_cases hk2 : k < 8
 ·have hw1 := hp.nol.wf hw
  have hR := Round_spec (G := G) (h := h) b1 mask hw1 hp.check
  have hS := same_spec33 (G := G) (h := h) (roundN mask b1) b1 ((round_kps mask hp.check).nol.wf hw1)
  have hkp := (round_kps mask hp.check).trans hp
  have hstep : runP mask (8 - k) b1 = if roundN mask b1 = b1 then roundN mask b1 else runP mask (8 - (k + 1)) (roundN mask b1) := by rw [show 8 - k = (8 - (k + 1)) + 1 by omega, runP]
  rw [hstep] at hr
  clear hstep
  generalize runP mask 8 b = R at *
  generalize roundN mask b1 = b2 at *
  have hk3 : (k : Int) < 8 := by omega
  simp (disch := omega) only [push_cast, simprocAttr, wrap_i64, toNat_ofInt64, Nat.min_eq_left, Int.toNat_of_nonneg, hk2, hk3]
  refine hR.to ?_
  simp only [push_cast, simprocAttr]
  refine hS.to ?_
  by_cases he : b2 = b1
  ·rw [if_pos he] at hr
   rw [decide_eq_true he]
   simp only [push_cast, simprocAttr]
   rw [hr]
  ·rw [if_neg he] at hr
   rw [decide_eq_false he]
   simp (disch := omega) only [push_cast, simprocAttr, wrap_i64, toNat_ofInt64, Nat.min_eq_left, Int.toNat_of_nonneg]
   exact ⟨_, _, by omega, .refl _, k + 1, b2, rfl, by omega, rfl, hkp, hr, rfl⟩
 ·obtain rfl : k = 8 := by omega
  simp only [push_cast, simprocAttr]
  rw [hr]
  rfl
theorem Tune_spec (b : IBk) (hw : b.wf) (hc : b.check = 0) : Spec Tryz.prog G 26 [bkP b] h (Is (.tup [bkP (runP 15 8 (runP 15 8 b).fw), .int .i64 0]) h) := by
 have h1 := run_kps 15 8 hc
 have h2 := (fw_kps h1.check).trans h1
 refine Spec.is C26ok rfl ?_
 simp only [push_cast, simprocAttr]
 refine (Run_spec b 15 hw hc).to ?_
 simp only [push_cast, simprocAttr]
 refine (Do_spec _ (h1.nol.wf hw) h1.check).to ?_
 simp only [push_cast, simprocAttr]
 refine (Run_spec _ 15 (h2.nol.wf hw) h2.check).to ?_
 simp only [push_cast, simprocAttr]
 try rfl
end Go.Ab
end
section
namespace Go.Ab
open Go.Proofs
variable {G : Glo} {h : Heap}
@[push_cast] theorem abin_and_u16 (a b : Int) : abin .and (.int .u16 a) (.int .u16 b) = some (.int .u16 ((BitVec.ofInt 16 a &&& BitVec.ofInt 16 b).toNat : Int)) := by
 show (if IntKind.u16 = IntKind.u16 then some (AV.int .u16 (IntKind.u16.wrap ((BitVec.ofInt 16 a &&& BitVec.ofInt 16 b).toNat : Int))) else none) = _
 rw [if_pos rfl, wr_u16, ofInt_toNat, BitVec.setWidth_eq]
def wdW (w : BitVec 16) (n k : Nat) : List Bool := (List.range n).map fun i => decide (i < k) && w.getLsbD i
def wdB (w : IWd) (n : Nat) : List (BitVec 8) := w.b ++ List.replicate (n - w.b.length) 0
def wdM (w : IWd) (n k : Nat) : IRam := ⟨wdB w n, wdW w.w (n / 64) k, List.replicate (n / 64) 0⟩
theorem wdW_len (w : BitVec 16) (n k : Nat) : (wdW w n k).length = n := by simp [wdW]
theorem wdW_0 (w : BitVec 16) (n : Nat) : wdW w n 0 = List.replicate n false := by
 apply List.ext_getElem?
 intro i
 simp [wdW, List.getElem?_replicate]
 split <;> simp [*]
theorem wdW_S (w : BitVec 16) (n k : Nat) : wdW w n (k + 1) = if w.getLsbD k then (wdW w n k).set k true else wdW w n k := by
 apply List.ext_getElem?
 intro i
 by_cases hi : i < n
 ·by_cases hb : w.getLsbD k = true
  ·rw [if_pos hb, List.getElem?_set]
   by_cases e : k = i
   ·subst e; simp [wdW, hi, hb]
   ·rw [if_neg e]
    have : (i < k + 1) ↔ i < k := by omega
    simp [wdW, hi, this]
  ·rw [if_neg hb]
   by_cases e : k = i
   ·subst e; simp [wdW, hi, hb]
   ·have : (i < k + 1) ↔ i < k := by omega
    simp [wdW, hi, this]
 ·rw [List.getElem?_eq_none (by simp [wdW]; omega), List.getElem?_eq_none (by split <;> simp [wdW] <;> omega)]
theorem wd_fill {w : IWd} {n : Nat} (hn : rightN n = true) (hb : w.b.length ≤ n) : fillE (IRam.new n).b.length 2147483648#32 w.b.length = 0 ∧ (IRam.new n).fill 2147483648#32 w.b = wdM w n 0 := by
 simp only [rightN, Bool.and_eq_true, decide_eq_true_eq] at hn
 have hl : (IRam.new n).b.length = n := by simp [IRam.new]
 have ha : (2147483648#32).toNat = 2147483648 := rfl
 have hM : wdM w n 0 = ⟨wdB w n, List.replicate (n / 64) false, List.replicate (n / 64) 0⟩ := by rw [wdM, wdW_0]
 rw [hl, hM]
 by_cases h0 : w.b.length = 0
 ·refine ⟨by rw [fillE, if_pos h0], ?_⟩
  rw [IRam.fill, if_neg (fun q => q.1 h0)]
  have : w.b = [] := List.length_eq_zero_iff.1 h0
  simp [IRam.new, wdB, this]
 ·have hh : hasN n 2147483648#32 w.b.length = true := by simp only [hasN, Bool.and_eq_true, decide_eq_true_eq, ha]; omega
  refine ⟨by rw [fillE, if_neg h0, if_pos hh], ?_⟩
  rw [IRam.fill, hl, if_pos ⟨h0, hh⟩, ha]
  simp [IRam.put, IRam.new, wdB]
def MemTo (h : Heap) (M : IRam) (r : AV) (h' : Heap) : Prop := ∃ l : Pl, r = .ptr l.p 0 ∧ RamAt h' l M ∧ (∀ c, l.has c → h c = none) ∧ ∀ c, ¬ l.has c → h' c = h c
theorem bit16 (w : BitVec 16) (k : Nat) : ((w >>> k &&& 1#16).toNat : Int) = (if w.getLsbD k then 1 else 0) := by
 have : w >>> k &&& 1#16 = if w.getLsbD k then 1#16 else 0#16 := by
  ext i hi
  simp
  by_cases e : i = 0
  ·subst e; split <;> simp_all
  ·split <;> simp [e] <;> intro h1 <;> omega
 rw [this]
 split <;> rfl
end Go.Ab
end
section
namespace Go.Ab
open Go.Proofs
variable {G : Glo} {h : Heap}
theorem Le.aggf {g : Heap} {b n cap i : Nat} {cells : List AV} {L : List AV} {sp : Nat} (hi : L[i]? = some (.sl b 0 n cap)) (hb : g b = none) (h0 : n = 0 → cells = []) : Le (.agg L) (upd g b ⟨cells, sp⟩) (.agg (L.set i (.ro cells n))) g := by
 intro w v hw hr
 obtain ⟨cs, rfl, hl, h1, hr1⟩ := rep_agg hr
 have hsub : Sub g (upd g b ⟨cells, sp⟩) := (Sub.refl g).alloc hb
 obtain ⟨l1, _⟩ := hrep_less hw hsub
 have hk : Keeps w (upd g b ⟨cells, sp⟩).dom w g.dom := ⟨Nat.le_refl _, fun c _ hn => ⟨fun hd => hn fun e => hd (hsub.none e), rfl⟩, fun _ h => h⟩
 refine ⟨l1, .agg _ _ (by simpa using hl) h1 fun j u c e1 e2 => ?_, fun c hc => hsub.none hc⟩
 rw [List.getElem?_set] at e1
 split at e1
 ·rename_i hij
  subst hij
  split at e1
  ·cases e1
   exact (Le.freeze (pre := []) hb h0 w c hw (hr1 i _ c hi e2)).2.1
  ·cases e1
 ·exact (hr1 j u c e1 e2).keep hk
def rowsH (h : Heap) (b w g : Nat) (M : IRam) : Heap := upd (upd (upd h b ⟨bys M.b, 0⟩) w ⟨bos M.w, 0⟩) g ⟨qws M.g, 0⟩
def RowsTo (h : Heap) (M : IRam) (r : AV) (h' : Heap) : Prop := ∃ b w g, (b ≠ w ∧ b ≠ g ∧ w ≠ g) ∧ (h b = none ∧ h w = none ∧ h g = none) ∧
 r = .agg [.sl b 0 M.b.length M.b.length, .sl w 0 M.w.length M.w.length, .sl g 0 M.g.length M.g.length] ∧ h' = rowsH h b w g M
theorem rNew_spec (n : Nat) (hn : rightN n = true) : Spec Tryz.prog G 44 [.int .i64 n] h (RowsTo h (IRam.new n)) := by
  simp only [rightN, Bool.and_eq_true, decide_eq_true_eq] at hn
  have hq : (n : Int).tdiv 64 = ((n / 64 : Nat) : Int) := by simp
  obtain ⟨p, hp⟩ : ∃ p, n / 64 = p := ⟨_, rfl⟩
  rw [hp] at hq
  obtain ⟨c1, c2, c3⟩ := new_cells n
  obtain ⟨d1, d2, d3⟩ := new_cells p
  have fin : ∀ (b w g : Nat) (H : Heap), (h b = none ∧ h w = none ∧ h g = none) → (b ≠ w ∧ b ≠ g ∧ w ≠ g) → H b = some ⟨List.replicate n (.int .u8 0), 0⟩ → H w = some ⟨List.replicate p (.bool false), 0⟩ → H g = some ⟨List.replicate p (.int .u64 0), 0⟩ →
      (∀ c x, h c = some x → H c = some x) → ∃ h1, Sub h1 H ∧ RowsTo h (IRam.new n) (.agg [.sl b 0 n n, .sl w 0 p p, .sl g 0 p p]) h1 := by
    intro b w g H f q h1 h2 h3 ho
    refine ⟨_, fun c x hc => ?_, b, w, g, q, f, by simp [IRam.new, hp], rfl⟩
    simp only [rowsH, upd_at] at hc
    split at hc
    · rename_i e; subst e; rw [h3, ← hc, ← d3, ← hp]; rfl
    · split at hc
      · rename_i e; subst e; rw [h2, ← hc, ← d2, ← hp]; rfl
      · split at hc
        · rename_i e; subst e; rw [h1, ← hc, ← c1]; rfl
        · exact ho c x hc
  refine Spec.drop ?_
  refine Spec.walk C44ok rfl ?_
  have z1 : ((n : Int) - (n : Int)).toNat = 0 := by omega
  have z2 : ((p : Int) - (p : Int)).toNat = 0 := by omega
  have z3 : ∀ (x y z u : Nat), x ≠ u → y ≠ u → z ≠ u → x ≠ y → x ≠ z → y ≠ z → ∀ D A B C : Blk, upd (upd (upd (upd h u D) x A) y B) z C u = some D := by
    intro x y z u q1 q2 q3 q4 q5 q6 D A B C
    rw [upd_ne (Ne.symm q3), upd_ne (Ne.symm q2), upd_ne (Ne.symm q1), upd_same]
  have z4 : ∀ (x y z u : Nat), x ≠ u → y ≠ u → z ≠ u → x ≠ y → x ≠ z → y ≠ z → ∀ D A B C E : Blk, (upd (upd (upd (upd (upd h u D) x A) y B) z C) u E) x = some A ∧ (upd (upd (upd (upd (upd h u D) x A) y B) z C) u E) y = some B ∧ (upd (upd (upd (upd (upd h u D) x A) y B) z C) u E) z = some C ∧
      ∀ c, c ≠ x → c ≠ y → c ≠ z → c ≠ u → (upd (upd (upd (upd (upd h u D) x A) y B) z C) u E) c = h c := by
    intro x y z u q1 q2 q3 q4 q5 q6 D A B C E
    refine ⟨?_, ?_, ?_, fun c k1 k2 k3 k4 => ?_⟩
    · rw [upd_ne q1, upd_ne q5, upd_ne q4, upd_same]
    · rw [upd_ne q2, upd_ne q6, upd_same]
    · rw [upd_ne q3, upd_same]
    · rw [upd_ne k4, upd_ne k3, upd_ne k2, upd_ne k1, upd_ne k4]
  simp (disch := omega) only [push_cast, simprocAttr, wrap_i64, toNat_ofInt64, Nat.min_eq_left, Int.toNat_of_nonneg, hq, z1, z2]
  (repeat' (first | apply And.intro | intro _)) <;> first
    | omega
    | (rename_i b0 e0 b1 e1 b2 e2 b3 e3
       obtain ⟨n10, f1⟩ := upd_none e1
       obtain ⟨n21, e2'⟩ := upd_none e2
       obtain ⟨n20, f2⟩ := upd_none e2'
       obtain ⟨n32, e3'⟩ := upd_none e3
       obtain ⟨n31, e3''⟩ := upd_none e3'
       obtain ⟨n30, f3⟩ := upd_none e3''
       have look := z3 b1 b2 b3 b0 n10 n20 n30 (Ne.symm n21) (Ne.symm n31) (Ne.symm n32)
       have key := z4 b1 b2 b3 b0 n10 n20 n30 (Ne.symm n21) (Ne.symm n31) (Ne.symm n32)
       have old : ∀ D A B C E : Blk, ∀ c x, h c = some x → (upd (upd (upd (upd (upd h b0 D) b1 A) b2 B) b3 C) b0 E) c = some x := by
         intro D A B C E c x hc
         rw [(key D A B C E).2.2.2 c (fun e => by rw [e, f1] at hc; cases hc) (fun e => by rw [e, f2] at hc; cases hc) (fun e => by rw [e, f3] at hc; cases hc) (fun e => by rw [e, e0] at hc; cases hc)]
         exact hc
       clear z3 z4
       simp (disch := omega) only [push_cast, simprocAttr, wrap_i64, toNat_ofInt64, Nat.min_eq_left, Int.toNat_of_nonneg, look]
       first
         | exact fin b1 b2 b3 _ ⟨f1, f2, f3⟩ ⟨Ne.symm n21, Ne.symm n31, Ne.symm n32⟩ (key _ _ _ _ _).1 (key _ _ _ _ _).2.1 (key _ _ _ _ _).2.2.1 (old _ _ _ _ _)
         | exact fin b1 b3 b2 _ ⟨f1, f3, f2⟩ ⟨Ne.symm n31, Ne.symm n21, n32⟩ (key _ _ _ _ _).1 (key _ _ _ _ _).2.2.1 (key _ _ _ _ _).2.1 (old _ _ _ _ _)
         | exact fin b2 b1 b3 _ ⟨f2, f1, f3⟩ ⟨n21, Ne.symm n32, Ne.symm n31⟩ (key _ _ _ _ _).2.1 (key _ _ _ _ _).1 (key _ _ _ _ _).2.2.1 (old _ _ _ _ _)
         | exact fin b2 b3 b1 _ ⟨f2, f3, f1⟩ ⟨Ne.symm n32, n21, n31⟩ (key _ _ _ _ _).2.1 (key _ _ _ _ _).2.2.1 (key _ _ _ _ _).1 (old _ _ _ _ _)
         | exact fin b3 b1 b2 _ ⟨f3, f1, f2⟩ ⟨n31, n32, Ne.symm n21⟩ (key _ _ _ _ _).2.2.1 (key _ _ _ _ _).1 (key _ _ _ _ _).2.1 (old _ _ _ _ _)
         | exact fin b3 b2 b1 _ ⟨f3, f2, f1⟩ ⟨n32, n31, n21⟩ (key _ _ _ _ _).2.2.1 (key _ _ _ _ _).2.1 (key _ _ _ _ _).1 (old _ _ _ _ _))
end Go.Ab
end
section
namespace Go.Ab
open Go.Proofs
variable {G : Glo} {h : Heap}
def del (h : Heap) (b : Nat) : Heap := fun c => if c = b then none else h c
theorem del_at {h : Heap} {b c : Nat} : del h b c = if c = b then none else h c := rfl
theorem del_ne {h : Heap} {b c : Nat} (hc : c ≠ b) : del h b c = h c := if_neg hc
theorem upd_del {h : Heap} {b : Nat} {x : Blk} (hb : h b = some x) : h = upd (del h b) b x := by
 funext c
 simp only [upd_at, del_at]
 split
 ·rename_i e; rw [e, hb]
 ·rfl
theorem Le.own {h : Heap} {b n cap : Nat} {cells : List AV} {sp : Nat} (hb : h b = some ⟨cells, sp⟩) (h0 : n = 0 → cells = []) : Le (.sl b 0 n cap) h (.ro cells n) (del h b) := by
 have := Le.freeze (g := del h b) (b := b) (n := n) (cap := cap) (pre := []) (cells := cells) (sp := sp) (by simp [del_at]) h0
 rw [List.nil_append, ← upd_del hb] at this
 exact this
theorem Le.aggd {h : Heap} {b n cap i : Nat} {cells : List AV} {L : List AV} {sp : Nat} (hi : L[i]? = some (.sl b 0 n cap)) (hb : h b = some ⟨cells, sp⟩) (h0 : n = 0 → cells = []) : Le (.agg L) h (.agg (L.set i (.ro cells n))) (del h b) := by
 have := Le.aggf (g := del h b) (cells := cells) (sp := sp) hi (by simp [del_at]) h0
 rw [← upd_del hb] at this
 exact this
theorem Le.less {r : AV} {h g : Heap} (hs : Sub g h) : Le r h r g := by
 intro w v hw hr
 obtain ⟨l1, l2⟩ := hrep_less hw hs
 exact ⟨l1, hr.keep ⟨Nat.le_refl _, fun c _ hn => ⟨fun hd => hn fun e => hd (hs.none e), rfl⟩, fun _ h => h⟩, fun c hc => hs.none hc⟩
def IRam.cells (M : IRam) : List AV := [byt M.b, .ro (bos M.w) M.w.length, .ro (qws M.g) M.g.length]
abbrev ramV (M : IRam) : AV := .agg M.cells
theorem rPut_spec (b x : List (BitVec 8)) (addr : BitVec 32) (ha : 2147483648 ≤ addr.toNat) (hl : addr.toNat - 2147483648 + x.length ≤ b.length) (hb : b.length ≤ 65536) :
  Spec Tryz.prog G 45 [byt b, .int .u32 addr.toNat, byt x] h (Is (byt (b.take (addr.toNat - 2147483648) ++ x ++ b.drop (addr.toNat - 2147483648 + x.length))) h) := by
 have hlt := addr.isLt
 have hc : (BitVec.ofInt 64 (addr.toNat : Int)).toNat = addr.toNat := by
  rw [BitVec.ofInt_natCast, BitVec.toNat_ofNat, Nat.mod_eq_of_lt (by omega)]
 obtain ⟨k, hk⟩ : ∃ k, addr.toNat - 2147483648 = k := ⟨_, rfl⟩
 have hk' : (addr.toNat : Int) - 2147483648 = k := by omega
 rw [hk] at hl ⊢
 have q1 : (k : Int) ≤ b.length := by omega
 have q2 : (0 : Int) ≤ (k : Int) + x.length := by omega
 have q3 : (k : Int) + x.length ≤ b.length := by omega
 have q4 : ((k : Int) + x.length).toNat = k + x.length := by omega
 have q5 : List.take (b.length - (k + x.length)) (List.drop (k + x.length) (bys b)) = bys (b.drop (k + x.length)) := by
  rw [bys_drop, List.take_of_length_le (by simp [bys])]
 have q6 : (bys (b.drop (k + x.length))).length = b.length - (k + x.length) := by simp [bys]
 have q7 : List.take k (bys b) = bys (b.take k) := by rw [bys_take]
 have q8 : (bys (b.take k)).length = k := by simp [bys]; omega
 refine Spec.weak (Q := fun r h' => Own 1 h r (bys (b.take k ++ x ++ b.drop (k + x.length))) b.length h') ?_ ?_
 ·refine Spec.walk C45ok rfl ?_
  simp (disch := omega) only [push_cast, simprocAttr, wrap_i64, toNat_ofInt64, Nat.min_eq_left, Int.toNat_of_nonneg, hk', byt, q1, q2, q3, q4, q5, q6, q7, q8]
  intro c hc
  have o0 : Own 1 h (.sl c 0 0 0) (bys []) 0 (upd h c ⟨[], 0⟩) := .row c 0 0 [] [] 0 hc rfl (by omega)
  refine o0.app (m := k) (by simp [q8]) (by omega) (by omega) fun v1 h1 o1 => ?_
  simp (disch := omega) only [push_cast, simprocAttr, wrap_i64, toNat_ofInt64, Nat.min_eq_left, Int.toNat_of_nonneg, hk', byt, q1, q2, q3, q4, q5, q6, q7, q8]
  refine o1.app (m := x.length) (by simp [bys]) (by omega) (by omega) fun v2 h2 o2 => ?_
  simp (disch := omega) only [push_cast, simprocAttr, wrap_i64, toNat_ofInt64, Nat.min_eq_left, Int.toNat_of_nonneg, hk', byt, q1, q2, q3, q4, q5, q6, q7, q8]
  refine o2.app (m := b.length - (k + x.length)) (by simp [q6]) (by omega) (by omega) fun v3 h3 o3 => ?_
  simp (disch := omega) only [push_cast, simprocAttr, wrap_i64, toNat_ofInt64, Nat.min_eq_left, Int.toNat_of_nonneg, hk', byt, q1, q2, q3, q4, q5, q6, q7, q8]
  rw [show 0 + k + x.length + (b.length - (k + x.length)) = b.length by omega] at o3
  simpa [bys] using o3
 ·rintro _ h' ho
  have hl2 : (b.take k ++ x ++ b.drop (k + x.length)).length = b.length := by simp; omega
  exact ⟨_, _, ⟨rfl, rfl⟩, by rw [byt, hl2]; exact ho.freeze⟩
def PgV (h F : Heap) (n : Nat) (B : List (BitVec 8)) (rw g : Nat) (bv : AV) : Prop := bv = byt B ∨ ∃ b, bv = .sl b 0 n n ∧ F b = some ⟨bys B, 0⟩ ∧ b ≠ rw ∧ b ≠ g ∧ h b = none
def PgQ (h : Heap) (n : Nat) (M : IRam) (r : AV) (F : Heap) : Prop := ∃ bv rw g, r = .agg [bv, .sl rw 0 M.w.length M.w.length, .sl g 0 M.g.length M.g.length] ∧ rw ≠ g ∧ F rw = some ⟨bos M.w, 0⟩ ∧ F g = some ⟨qws M.g, 0⟩ ∧
 PgV h F n M.b rw g bv ∧ (h rw = none ∧ h g = none) ∧ Sub h F
theorem pgQ_le {n : Nat} {M : IRam} {r : AV} {F : Heap} (hn : M.b.length = n) (hq : PgQ h n M r F) : Le r F (ramV M) h := by
 obtain ⟨bv, rw', g, rfl, hne, h1, h2, h3, ⟨h4, h5⟩, h6⟩ := hq
 have e1 : Le (.agg [bv, .sl rw' 0 M.w.length M.w.length, .sl g 0 M.g.length M.g.length]) F (.agg [bv, .ro (bos M.w) M.w.length, .sl g 0 M.g.length M.g.length]) (del F rw') :=
  Le.aggd (i := 1) (L := [bv, .sl rw' 0 M.w.length M.w.length, .sl g 0 M.g.length M.g.length]) rfl h1 (fun e => by simp [bos, List.length_eq_zero_iff.1 e])
 have e2 : Le (.agg [bv, .ro (bos M.w) M.w.length, .sl g 0 M.g.length M.g.length]) (del F rw') (.agg [bv, .ro (bos M.w) M.w.length, .ro (qws M.g) M.g.length]) (del (del F rw') g) :=
  Le.aggd (i := 2) (L := [bv, .ro (bos M.w) M.w.length, .sl g 0 M.g.length M.g.length]) rfl (sp := 0) (by rw [del_ne (Ne.symm hne)]; exact h2) (fun e => by simp [qws, List.length_eq_zero_iff.1 e])
 refine le_trans e1 (le_trans e2 ?_)
 rcases h3 with rfl | ⟨b, rfl, h7, h8, h9, h10⟩
 ·refine Le.less fun c x hc => ?_
  rw [del_ne (fun e => by rw [e, h5] at hc; cases hc), del_ne (fun e => by rw [e, h4] at hc; cases hc)]
  exact h6 c x hc
 ·have e3 : Le (.agg [.sl b 0 n n, .ro (bos M.w) M.w.length, .ro (qws M.g) M.g.length]) (del (del F rw') g) (.agg [.ro (bys M.b) n, .ro (bos M.w) M.w.length, .ro (qws M.g) M.g.length]) (del (del (del F rw') g) b) :=
   Le.aggd (i := 0) (L := [.sl b 0 n n, .ro (bos M.w) M.w.length, .ro (qws M.g) M.g.length]) rfl (sp := 0) (by rw [del_ne h9, del_ne h8]; exact h7) (fun e => by simp [bys, List.length_eq_zero_iff.1 (hn.trans e)])
  refine le_trans e3 ?_
  rw [ramV, IRam.cells, byt, hn]
  refine Le.less fun c x hc => ?_
  rw [del_ne (fun e => by rw [e, h10] at hc; cases hc), del_ne (fun e => by rw [e, h5] at hc; cases hc), del_ne (fun e => by rw [e, h4] at hc; cases hc)]
  exact h6 c x hc
theorem wdW_all (w : BitVec 16) (n : Nat) (hn : n ≤ 16) : wdW w n n = wdW w n 16 := by
 apply List.ext_getElem?
 intro i
 by_cases hi : i < n
 ·have : i < 16 := by omega
  simp [wdW, hi, this]
 ·rw [List.getElem?_eq_none (by simp [wdW]; omega), List.getElem?_eq_none (by simp [wdW]; omega)]
theorem Pages_spec {w : IWd} {n : Nat} (hl : w.regs.length = 32) (hs : w.size = n) (hn : rightN n = true) (hn2 : n ≤ 1024) (hb : w.b.length ≤ n) :
  Spec Tryz.prog G 20 [.agg w.cells] h (Is (ramV (wdM w n 16)) h) := by
 obtain ⟨w0, w32, w33, w34, wr⟩ := wd_at hl
 rw [hs] at w32
 have hn' := hn
 simp only [rightN, Bool.and_eq_true, decide_eq_true_eq] at hn'
 have hbl : (wdM w n 16).b.length = n := by simp [wdM, wdB]; omega
 refine Spec.weak (Q := PgQ h n (wdM w n 16)) ?_ fun r F hq => ⟨_, _, ⟨rfl, rfl⟩, pgQ_le hbl hq⟩
 obtain ⟨p, hp⟩ : ∃ p, n / 64 = p := ⟨_, rfl⟩
 refine Spec.walk C20ok rfl ?_
 simp only [push_cast, simprocAttr, w32, w33, w34, wr, w0]
 intro c2 hc2
 have m2 : upd h c2 ⟨[.nils, .nils, .nils], 0⟩ c2 = some ⟨[.nils, .nils, .nils], 0⟩ := upd_same _ _ _
 have s2 : Sub h (upd h c2 ⟨[.nils, .nils, .nils], 0⟩) := (Sub.refl h).alloc hc2
 generalize upd h c2 ⟨[.nils, .nils, .nils], 0⟩ = H2 at m2 s2 ⊢
 refine (rNew_spec n hn).mono ?_
 rintro _ _ ⟨b, rw', g, ⟨nbw, nbg, nwg⟩, ⟨fb, fw, fg⟩, rfl, rfl⟩
 simp only [push_cast, simprocAttr, w32, w33, w34, wr, w0]
 have L1 : (IRam.new n).b.length = n := by simp [IRam.new]
 have L2 : (IRam.new n).w.length = p := by simp [IRam.new, hp]
 have L3 : (IRam.new n).g.length = p := by simp [IRam.new, hp]
 rw [L1, L2, L3]
 intro c3 hc3
 have r1 : rowsH H2 b rw' g (IRam.new n) b = some ⟨bys (IRam.new n).b, 0⟩ := by rw [rowsH, upd_ne nbg, upd_ne nbw, upd_same]
 have r2 : rowsH H2 b rw' g (IRam.new n) rw' = some ⟨bos (IRam.new n).w, 0⟩ := by rw [rowsH, upd_ne nwg, upd_same]
 have r3 : rowsH H2 b rw' g (IRam.new n) g = some ⟨qws (IRam.new n).g, 0⟩ := by rw [rowsH, upd_same]
 have r4 : Sub H2 (rowsH H2 b rw' g (IRam.new n)) := ((Sub.refl H2).set fb).set (h := H2) fw |>.set fg
 generalize rowsH H2 b rw' g (IRam.new n) = H3 at hc3 r1 r2 r3 r4 ⊢
 have k3b : c3 ≠ b := fun e => by rw [e, r1] at hc3; cases hc3
 have k3w : c3 ≠ rw' := fun e => by rw [e, r2] at hc3; cases hc3
 have k3g : c3 ≠ g := fun e => by rw [e, r3] at hc3; cases hc3
 have k32 : c3 ≠ c2 := fun e => by rw [e, r4 c2 _ m2] at hc3; cases hc3
 have k2b : c2 ≠ b := fun e => by rw [e, fb] at m2; cases m2
 have k2w : c2 ≠ rw' := fun e => by rw [e, fw] at m2; cases m2
 have k2g : c2 ≠ g := fun e => by rw [e, fg] at m2; cases m2
 have hh3 : h c3 = none := by
  cases e : h c3 with
  | none => rfl
  | some x => have := r4 c3 _ (s2 c3 _ e); rw [hc3] at this; cases this
 have hhb : h b = none := s2.none fb
 have hhw : h rw' = none := s2.none fw
 have hhg : h g = none := s2.none fg
 -- what holds when the loop begins
 have loop : ∀ (H : Heap) (bv : AV), H c3 = some ⟨[bv, .sl rw' 0 p p, .sl g 0 p p], 0⟩ → H c2 = some ⟨[.nils, .nils, .nils], 0⟩ → H rw' = some ⟨bos (wdW w.w p 0), 0⟩ → H g = some ⟨qws (IRam.new n).g, 0⟩ → PgV h H n (wdB w n) rw' g bv → (∀ b, bv = .sl b 0 n n → b ≠ c2 ∧ b ≠ c3) → Sub h H →
   lpc Tryz.prog G Tryz.f20.ntmps C20_14 (blk 0 (thn [2, 3] (wpc Tryz.prog G Tryz.f20.ntmps C20_19 (retQ C20r (PgQ h n (wdM w n 16)))) (retQ C20r (PgQ h n (wdM w n 16)))))
    [(1, .cp w.cells 0), (2, .ptr c2 0), (3, .ptr c3 0), (4, .int .i64 0)] H := by
  intro H bv a1 a2 a3 a4 a5 a6 a7
  refine lpc.rel [1, 2, 3, 4] (fun m ρ H' => ∃ k : Nat, m = p - k ∧ k ≤ p ∧ H' c3 = some ⟨[bv, .sl rw' 0 p p, .sl g 0 p p], 0⟩ ∧ H' c2 = some ⟨[.nils, .nils, .nils], 0⟩ ∧ H' rw' = some ⟨bos (wdW w.w p k), 0⟩ ∧ H' g = some ⟨qws (IRam.new n).g, 0⟩ ∧ PgV h H' n (wdB w n) rw' g bv ∧ Sub h H' ∧
   ρ = [(1, .cp w.cells 0), (2, .ptr c2 0), (3, .ptr c3 0), (4, .int .i64 (k : Int))]) ⟨_, 0, rfl, by omega, a1, a2, a3, a4, a5, a7, rfl⟩ ?_
  clear a1 a2 a3 a4 a5 a7
  rintro m _ H' ⟨k, rfl, hk, a1, a2, a3, a4, a5, a7, rfl⟩
  have hbit := bit16 w.w k
  have hm : min (BitVec.ofInt 64 (k : Int)).toNat 16 = k := by
   rw [BitVec.ofInt_natCast, BitVec.toNat_ofNat, Nat.mod_eq_of_lt (by omega)]; omega
  simp only [push_cast, simprocAttr, w32, w33, w34, wr, w0, hm, hbit, a1, a2, a3, a4]
  refine ⟨fun q => ⟨q.2, by rw [wdW_len]; omega, ?_⟩, fun q => ?_⟩
  ·have hS := wdW_S w.w p k
   have e1 : (wdW w.w p k).set k ((if w.w.getLsbD k = true then (1 : Int) else 0) == 1) = wdW w.w p (k + 1) := by
    rw [hS]
    cases e : w.w.getLsbD k
    ·simp
     apply List.ext_getElem?
     intro i
     rw [List.getElem?_set]
     split
     ·rename_i hi; subst hi; simp [wdW, q.2]
     ·rfl
    ·simp
   rw [e1]
   simp (disch := omega) only [push_cast, simprocAttr, wrap_i64, toNat_ofInt64, Nat.min_eq_left, Int.toNat_of_nonneg]
   refine ⟨_, _, by omega, .refl _, k + 1, rfl, by omega, by rw [upd_ne k3w]; exact a1, by rw [upd_ne k2w]; exact a2, upd_same _ _ _, by rw [upd_ne (Ne.symm nwg)]; exact a4, ?_, fun c x hc => ?_, rfl⟩
   ·rcases a5 with e | ⟨b', e, e2, e3, e4, e5⟩
    ·exact .inl e
    ·exact .inr ⟨b', e, by rw [upd_ne e3]; exact e2, e3, e4, e5⟩
   ·rw [upd_ne (fun e => by rw [e, hhw] at hc; cases hc)]
    exact a7 c x hc
  ·have hkp : k = p := by
    simp only [Bool.and_eq_false_iff, decide_eq_false_iff_not] at q
    omega
   subst hkp
   have hp' : wdW w.w (n / 64) 16 = wdW w.w k k := by rw [hp, wdW_all _ _ (by omega)]
   refine ⟨bv, rw', g, by simp [wdM, wdW_len, hp], nwg, ?_, ?_, ?_, ⟨hhw, hhg⟩, ?_⟩
   ·rw [upd_ne (Ne.symm k2w), wdM, hp']; exact a3
   ·rw [upd_ne (Ne.symm k2g), wdM, hp, a4]; simp [IRam.new, hp]
   ·rcases a5 with e | ⟨b', e, e2, e3, e4, e5⟩
    ·exact .inl e
    ·exact .inr ⟨b', e, by rw [upd_ne (a6 b' e).1]; exact e2, e3, e4, e5⟩
   ·exact a7.set hc2
 obtain ⟨f1, f2⟩ := wd_fill hn hb
 have hB : wdB w n = (IRam.new n).b.take 0 ++ w.b ++ (IRam.new n).b.drop (0 + w.b.length) := by simp [wdB, IRam.new]
 have hW0 : (IRam.new n).w = wdW w.w p 0 := by rw [wdW_0, ← hp]; rfl
 obtain ⟨H4, hH4⟩ : ∃ H4, upd H3 c3 ⟨[.sl b 0 n n, .sl rw' 0 p p, .sl g 0 p p], 0⟩ = H4 := ⟨_, rfl⟩
 have g1 : H4 c3 = some ⟨[.sl b 0 n n, .sl rw' 0 p p, .sl g 0 p p], 0⟩ := by rw [← hH4, upd_same]
 have g2 : H4 c2 = some ⟨[.nils, .nils, .nils], 0⟩ := by rw [← hH4, upd_ne (Ne.symm k32)]; exact r4 c2 _ m2
 have g3 : H4 rw' = some ⟨bos (wdW w.w p 0), 0⟩ := by rw [← hH4, upd_ne (Ne.symm k3w), r2, hW0]
 have g4 : H4 g = some ⟨qws (IRam.new n).g, 0⟩ := by rw [← hH4, upd_ne (Ne.symm k3g), r3]
 have g5 : H4 b = some ⟨bys (IRam.new n).b, 0⟩ := by rw [← hH4, upd_ne (Ne.symm k3b), r1]
 have g6 : Sub h H4 := hH4 ▸ (s2.trans r4).alloc hc3
 rw [hH4]
 clear hH4
 refine ⟨fun q => ?_, fun q => ?_⟩
 ·refine Spec.preN (a' := byt (IRam.new n).b) (h1 := del H4 b) (by rw [byt, L1]; exact Le.own g5 (fun e => by simp [IRam.new, e, bys])) ?_
  refine (rPut_spec (IRam.new n).b w.b 2147483648#32 (by decide) (by rw [L1]; simp; omega) (by rw [L1]; omega)).to ?_
  rw [show (2147483648#32).toNat - 2147483648 = 0 from rfl, ← hB]
  have d1 : del H4 b c3 = some ⟨[.sl b 0 n n, .sl rw' 0 p p, .sl g 0 p p], 0⟩ := by rw [del_ne k3b]; exact g1
  have d2 : del H4 b c2 = some ⟨[.nils, .nils, .nils], 0⟩ := by rw [del_ne k2b]; exact g2
  have d3 : del H4 b rw' = some ⟨bos (wdW w.w p 0), 0⟩ := by rw [del_ne (Ne.symm nbw)]; exact g3
  have d4 : del H4 b g = some ⟨qws (IRam.new n).g, 0⟩ := by rw [del_ne (Ne.symm nbg)]; exact g4
  have d6 : Sub h (del H4 b) := fun c x hc => by rw [del_ne (fun e => by rw [e, hhb] at hc; cases hc)]; exact g6 c x hc
  generalize del H4 b = H5 at d1 d2 d3 d4 d6 ⊢
  simp only [push_cast, simprocAttr, d1]
  refine loop _ (byt (wdB w n)) (upd_same _ _ _) (by rw [upd_ne (Ne.symm k32)]; exact d2) (by rw [upd_ne (Ne.symm k3w)]; exact d3) (by rw [upd_ne (Ne.symm k3g)]; exact d4) (.inl rfl) (fun b' e => by cases e) (d6.set hh3)
 ·have h0 : w.b = [] := List.length_eq_zero_iff.1 (by omega)
  have hB' : wdB w n = (IRam.new n).b := by simp [wdB, h0, IRam.new]
  exact loop H4 (.sl b 0 n n) g1 g2 g3 g4 (.inr ⟨b, rfl, by rw [hB']; exact g5, nbw, nbg, hhb⟩) (fun b' e => by cases e; exact ⟨Ne.symm k2b, Ne.symm k3b⟩) g6
end Go.Ab
end
section
namespace Go.Ab
open Go.Proofs
variable {G : Glo} {h : Heap}
theorem rWidth_spec (n : Int) : Spec Tryz.prog G 90 [.int .i64 n] h (Is (.bool (n == 1 || n == 2 || n == 4)) h) := by
 refine Spec.is C90ok rfl ?_
 simp only [push_cast, simprocAttr]
theorem rHas_spec (b : List (BitVec 8)) (addr : BitVec 32) (n : Int) (hb : b.length ≤ 65536) (hn : n ≤ 9223372036854775807) (hn0 : -9223372036854775808 ≤ n) : Spec Tryz.prog G 91 [byt b, .int .u32 addr.toNat, .int .i64 n] h (Is (.bool (hasN b.length addr n)) h) := by
 have hN : hasN b.length addr n = (decide (1 ≤ n) && decide (n ≤ b.length) && decide (2147483648 ≤ addr.toNat) && decide ((addr.toNat : Int) - 2147483648 ≤ b.length - n)) := rfl
 generalize hasN b.length addr n = N at hN ⊢
 have hlt := addr.isLt
 refine Spec.is C91ok rfl ?_
 simp (disch := omega) only [push_cast, simprocAttr, wrap_i64, toNat_ofInt64, Nat.min_eq_left, Int.toNat_of_nonneg, byt]
 rw [hN]
 by_cases h1 : 1 ≤ n
 ·rw [wrap_i64 (by omega) (by omega)]
  (first | rfl | (congr 1; done) | (congr 1; rw [Bool.eq_iff_iff]; simp only [Bool.and_eq_true, Bool.or_eq_true, Bool.not_eq_true', decide_eq_true_eq, decide_eq_false_iff_not, Bool.false_eq_true, true_and, and_true]; first | omega | grind))
 ·have h2 : ¬ n ≥ 1 := h1
  simp [h1, h2]
theorem rAsked_spec (b : List (BitVec 8)) (addr : BitVec 32) (n : Int) (hb : b.length ≤ 65536) : Spec Tryz.prog G 49 [byt b, .int .u32 addr.toNat, .int .i64 n] h (Is (.int .i64 (askedN b.length addr n)) h) := by
 by_cases hn : n = 1 ∨ n = 2 ∨ n = 4
 ·obtain ⟨t1, t2⟩ := tmod_124 addr n hn
  have hN : askedN b.length addr n = if (addr.toNat : Int) % n ≠ 0 then 5 else if hasN b.length addr n then 0 else 6 := by rw [askedN, if_neg (fun q => q hn)]
  have e0 : ((n == 1 || n == 2) || n == 4) = true := by rcases hn with rfl | rfl | rfl <;> rfl
  have hW := rWidth_spec (G := G) (h := h) n
  rw [e0] at hW
  have hlt := addr.isLt
  have hne : (n = 0) = False := by simp; omega
  have t3 : (addr.toNat : Int).tmod n = (addr.toNat : Int) % n := Int.tmod_eq_emod_of_nonneg (by omega)
  rw [hN]
  refine Spec.is C49ok rfl ?_
  simp only [push_cast, simprocAttr]
  refine hW.to ?_
  by_cases hm : (addr.toNat : Int) % n = 0
  ·simp only [push_cast, simprocAttr, t3, hne, hm]
   refine (rHas_spec b addr n hb (by omega) (by omega)).to ?_
   cases hH : hasN b.length addr n
   ·simp only [push_cast, simprocAttr]
   ·simp only [push_cast, simprocAttr]
  ·simp only [push_cast, simprocAttr, t3, hne, hm]
 ·have hN : askedN b.length addr n = 2 := by rw [askedN, if_pos hn]
  have e0 : ((n == 1 || n == 2) || n == 4) = false := by simp; omega
  have hW := rWidth_spec (G := G) (h := h) n
  rw [e0] at hW
  rw [hN]
  refine Spec.is C49ok rfl ?_
  simp only [push_cast, simprocAttr]
  refine hW.to ?_
  simp only [push_cast, simprocAttr]
theorem rLoad_spec (M : IRam) (addr : BitVec 32) (n : Nat) (hb : M.b.length ≤ 65536) (hn : n = 1 ∨ n = 2 ∨ n = 4) (hh : hasN M.b.length addr n = true) : Spec Tryz.prog G 51 [byt M.b, .int .u32 addr.toNat, .int .i64 n] h (Is (.int .u32 (M.load addr n).toNat) h) := by
 have hlt := addr.isLt
 have hH := hh
 simp only [hasN, Bool.and_eq_true, decide_eq_true_eq] at hH
 obtain ⟨k, hk⟩ : ∃ k, addr.toNat - 2147483648 = k := ⟨_, rfl⟩
 have hk' : (addr.toNat : Int) - 2147483648 = k := by omega
 have q1 : (k : Int) ≤ k + n := by omega
 have q3 : (k : Int) + n ≤ M.b.length := by omega
 have q4 : ((k : Int) + n).toNat - k = n := by omega
 have q5 : List.take n (List.drop k (bys M.b)) = bys ((M.b.drop k).take n) := by rw [bys_drop, bys_take]
 have q6 : ((M.b.drop k).take n).length = n := by simp; omega
 have hl : M.load addr n = BitVec.ofNat 32 (leN ((M.b.drop k).take n)) := by rw [IRam.load, hk]
 rw [hl]
 refine Spec.is C51ok rfl ?_
 simp (disch := omega) only [push_cast, simprocAttr, wrap_i64, toNat_ofInt64, Nat.min_eq_left, Int.toNat_of_nonneg, byt, hk', q4, q5]
 have hS := rNumber_spec (G := G) (h := h) ((M.b.drop k).take n) (by omega)
 rw [byt, q6] at hS
 refine ⟨by omega, hS.to ?_⟩
 simp only [push_cast, simprocAttr]
end Go.Ab
end
section
namespace Go.Ab
open Go.Proofs
variable {G : Glo} {h : Heap}
structure Bag (h H : Heap) (l : List (Nat × Blk)) : Prop where
 get : ∀ p ∈ l, H p.1 = some p.2
 new : ∀ p ∈ l, h p.1 = none
 nd : (l.map (·.1)).Nodup
 sub : Sub h H
theorem Bag.start (h : Heap) : Bag h h [] := ⟨fun p q => (by cases q), fun p q => (by cases q), by simp, Sub.refl h⟩
theorem Bag.alloc {h H : Heap} {l : List (Nat × Blk)} {b : Nat} (x : Blk) (hB : Bag h H l) (hb : H b = none) : Bag h (upd H b x) ((b, x) :: l) := by
 have hne : ∀ p ∈ l, p.1 ≠ b := fun p hp e => by rw [← e, hB.get p hp] at hb; cases hb
 refine ⟨fun p hp => ?_, fun p hp => ?_, ?_, hB.sub.alloc hb⟩
 ·rcases List.mem_cons.1 hp with rfl | hp
  ·exact upd_same _ _ _
  ·rw [upd_ne (hne p hp)]; exact hB.get p hp
 ·rcases List.mem_cons.1 hp with rfl | hp
  ·exact hB.sub.none hb
  ·exact hB.new p hp
 ·simp only [List.map_cons, List.nodup_cons]
  refine ⟨fun q => ?_, hB.nd⟩
  obtain ⟨p, hp, e⟩ := List.mem_map.1 q
  exact hne p hp e
theorem Bag.app {h H : Heap} {l r : List (Nat × Blk)} {b b' : Nat} {x : Blk} (y : Blk) (hB : Bag h H l) (hp : l.Perm ((b, x) :: r)) (hb : b' = b ∨ H b' = none) : Bag h (upd (era H b) b' y) ((b', y) :: r) := by
 have hnd : (((b, x) :: r).map (·.1)).Nodup := (hp.map _).nodup_iff.1 hB.nd
 simp only [List.map_cons, List.nodup_cons] at hnd
 have hbr : ∀ p ∈ r, p.1 ≠ b := fun p hp e => hnd.1 (e ▸ List.mem_map_of_mem hp)
 have hg : ∀ p ∈ r, H p.1 = some p.2 := fun p q => hB.get p (hp.mem_iff.2 (List.mem_cons_of_mem _ q))
 have hn : ∀ p ∈ r, h p.1 = none := fun p q => hB.new p (hp.mem_iff.2 (List.mem_cons_of_mem _ q))
 have hbn : h b = none := hB.new (b, x) (hp.mem_iff.2 (by simp))
 have hb'n : h b' = none := by
  rcases hb with rfl | q
  ·exact hbn
  ·exact hB.sub.none q
 have hne : ∀ p ∈ r, p.1 ≠ b' := fun p q e => by
  rcases hb with rfl | hb
  ·exact hbr p q e
  ·rw [← e, hg p q] at hb; cases hb
 refine ⟨fun p q => ?_, fun p q => ?_, ?_, fun c z hc => ?_⟩
 ·rcases List.mem_cons.1 q with rfl | q
  ·exact upd_same _ _ _
  ·rw [upd_ne (hne p q), era, if_neg (hbr p q)]; exact hg p q
 ·rcases List.mem_cons.1 q with rfl | q
  ·exact hb'n
  ·exact hn p q
 ·simp only [List.map_cons, List.nodup_cons]
  refine ⟨fun q => ?_, hnd.2⟩
  obtain ⟨p, hp, e⟩ := List.mem_map.1 q
  exact hne p hp e
 ·have h1 : c ≠ b := fun e => by rw [e, hbn] at hc; cases hc
  have h2 : c ≠ b' := fun e => by rw [e, hb'n] at hc; cases hc
  rw [upd_ne h2, era, if_neg h1]
  exact hB.sub c z hc
theorem Bag.perm {h H : Heap} {l r : List (Nat × Blk)} (hB : Bag h H l) (hp : l.Perm r) : Bag h H r :=
 ⟨fun p q => hB.get p (hp.mem_iff.2 q), fun p q => hB.new p (hp.mem_iff.2 q), (hp.map _).nodup_iff.1 hB.nd, hB.sub⟩
theorem Bag.set {h H : Heap} {r : List (Nat × Blk)} {b : Nat} {x : Blk} (y : Blk) (hB : Bag h H ((b, x) :: r)) : Bag h (upd H b y) ((b, y) :: r) := by
 have hnd := hB.nd
 simp only [List.map_cons, List.nodup_cons] at hnd
 refine ⟨fun p q => ?_, fun p q => ?_, hB.nd, hB.sub.set (hB.new (b, x) (by simp))⟩
 ·rcases List.mem_cons.1 q with rfl | q
  ·exact upd_same _ _ _
  ·have hpb : p.1 ≠ b := fun e => hnd.1 (by rw [← e]; exact List.mem_map_of_mem q)
   rw [upd_ne hpb]; exact hB.get p (List.mem_cons_of_mem _ q)
 ·rcases List.mem_cons.1 q with rfl | q
  ·exact hB.new (b, x) (by simp)
  ·exact hB.new p (List.mem_cons_of_mem _ q)
theorem appQ_new {sz bytes m : Nat} {cs : List AV} {h H : Heap} {l r : List (Nat × Blk)} {b : Nat} {Q : AV → Heap → Prop} (hB : Bag h H l) (hp : l.Perm ((b, ⟨[], 0⟩) :: r)) (hm : m * bytes ≤ 140737488355328) (hm2 : m ≤ 9223372036854775807)
  (hq : ∀ b' pre cap sp H', Bag h H' ((b', ⟨pre ++ cs, sp⟩) :: r) → Q (.sl b' pre.length m cap) H') : appQ sz bytes m cs (.sl b 0 0 0) H Q := by
 have hb : H b = some ⟨[], 0⟩ := hB.get (b, ⟨[], 0⟩) (hp.mem_iff.2 (by simp))
 simp only [appQ, hb]
 refine ⟨by simp, by simp, by simpa using hm, by simpa using hm2, fun b' pre cap sp hb' _ => ?_⟩
 have := hq b' pre cap sp _ (hB.app ⟨pre ++ cs, sp⟩ hp hb')
 simpa using this
theorem Bag.at {h H : Heap} {l : List (Nat × Blk)} {b : Nat} {x : Blk} (hB : Bag h H l) (hm : (b, x) ∈ l) : H b = some x := hB.get (b, x) hm
theorem Le.aggp {h : Heap} {b n cap i : Nat} {pre cells : List AV} {L : List AV} {sp : Nat} (hi : L[i]? = some (.sl b pre.length n cap)) (hb : h b = some ⟨pre ++ cells, sp⟩) (h0 : n = 0 → cells = []) : Le (.agg L) h (.agg (L.set i (.ro cells n))) (del h b) := by
 have hd : del h b b = none := by simp [del_at]
 rw [upd_del hb]
 have e2 : del (upd (del h b) b ⟨pre ++ cells, sp⟩) b = del h b := by rw [← upd_del hb]
 rw [e2]
 intro w v hw hr
 obtain ⟨cs, rfl, hl, h1, hr1⟩ := rep_agg hr
 have hsub : Sub (del h b) (upd (del h b) b ⟨pre ++ cells, sp⟩) := (Sub.refl _).alloc hd
 obtain ⟨l1, _⟩ := hrep_less hw hsub
 have hk : Keeps w (upd (del h b) b ⟨pre ++ cells, sp⟩).dom w (del h b).dom := ⟨Nat.le_refl _, fun c _ hn => ⟨fun hd => hn fun e => hd (hsub.none e), rfl⟩, fun _ h => h⟩
 refine ⟨l1, .agg _ _ (by simpa using hl) h1 fun j u c e1 e2 => ?_, fun c hc => hsub.none hc⟩
 rw [List.getElem?_set] at e1
 split at e1
 ·rename_i hij
  subst hij
  split at e1
  ·cases e1
   exact (Le.freeze hd h0 w c hw (hr1 i _ c hi e2)).2.1
  ·cases e1
 ·exact (hr1 j u c e1 e2).keep hk
theorem Le.tupb {r r' : AV} {h h' : Heap} {x : Bool} (hl : Le r h r' h') : Le (.tup [r, .bool x]) h (.tup [r', .bool x]) h' := by
 intro w v hw hr
 obtain ⟨cs, rfl, hl1, hr1⟩ := rep_tup hr
 obtain ⟨a, b, rfl⟩ : ∃ a b, cs = #[a, b] := by
  match cs, hl1 with
  | ⟨[a, b]⟩, _ => exact ⟨a, b, rfl⟩
 obtain ⟨x1, x2, x3⟩ := hl w a hw (hr1 0 r a rfl rfl)
 refine ⟨x1, .tup _ _ rfl fun i u c h1 h2 => ?_, x3⟩
 match i with
 | 0 => simp at h1 h2; subst h1; subst h2; exact x2
 | 1 =>
  simp at h1 h2; subst h1; subst h2
  have := hr1 1 (.bool x) b rfl rfl
  rw [rep_bool this]; exact .bool _
 | i + 2 => simp at h1
section
variable {M : IRam}
def OwnR (h : Heap) (M : IRam) (r : AV) (F : Heap) : Prop := ∃ bw pw cw sw bg pg cg sg, r = .agg [byt M.b, .sl bw (List.length pw) M.w.length cw, .sl bg (List.length pg) M.g.length cg] ∧ F bw = some ⟨pw ++ bos M.w, sw⟩ ∧ F bg = some ⟨pg ++ qws M.g, sg⟩ ∧ bw ≠ bg ∧
 (h bw = none ∧ h bg = none) ∧ Sub h F
theorem OwnR.le {r : AV} {F : Heap} (ho : OwnR h M r F) : Le r F (ramV M) h := by
 obtain ⟨bw, pw, cw, sw, bg, pg, cg, sg, rfl, h1, h2, hne, ⟨h4, h5⟩, h6⟩ := ho
 have e1 := Le.aggp (i := 1) (L := [byt M.b, .sl bw (List.length pw) M.w.length cw, .sl bg (List.length pg) M.g.length cg]) rfl h1 (fun e => by simp [bos, List.length_eq_zero_iff.1 e])
 have e2 := Le.aggp (h := del F bw) (i := 2) (L := [byt M.b, .ro (bos M.w) M.w.length, .sl bg (List.length pg) M.g.length cg]) rfl (sp := sg) (by rw [del_ne (Ne.symm hne)]; exact h2) (fun e => by simp [qws, List.length_eq_zero_iff.1 e])
 refine le_trans e1 (le_trans e2 (Le.less fun c x hc => ?_))
 rw [del_ne (fun e => by rw [e, h5] at hc; cases hc), del_ne (fun e => by rw [e, h4] at hc; cases hc)]
 exact h6 c x hc
theorem row_b (pre : List AV) (l : List Bool) (i : Nat) (hi : i < l.length) : (pre ++ bos l)[pre.length + i]? = some (.bool (l.getD i false)) := by
 rw [List.getElem?_append_right (by omega), Nat.add_sub_cancel_left, bos_get, if_pos hi]
theorem row_q (pre : List AV) (l : List (BitVec 64)) (i : Nat) (hi : i < l.length) : (pre ++ qws l)[pre.length + i]? = some (.int .u64 ((l.getD i 0#64).toNat : Int)) := by
 rw [List.getElem?_append_right (by omega), Nat.add_sub_cancel_left, qws_get, if_pos hi]
theorem rset_b (pre : List AV) (l : List Bool) (i : Nat) (x : Bool) : (pre ++ bos l).set (pre.length + i) (.bool x) = pre ++ bos (l.set i x) := by
 rw [List.set_append_right _ _ (by omega), Nat.add_sub_cancel_left, bos_set]
theorem rset_q (pre : List AV) (l : List (BitVec 64)) (i : Nat) (x : BitVec 64) : (pre ++ qws l).set (pre.length + i) (.int .u64 (x.toNat : Int)) = pre ++ qws (l.set i x) := by
 rw [List.set_append_right _ _ (by omega), Nat.add_sub_cancel_left, qws_set]
structure SI (h : Heap) (M : IRam) (addr w : BitVec 32) (n : Nat) (B : List (BitVec 8)) (c8 b19 bw cw sw b23 bg cg sg c10 : Nat) (pw pg : List AV) (pre : List Nat) (ρ : Env) (H : Heap) : Prop where
 k1 : lk ρ 1 = .int .u32 addr.toNat
 k8 : lk ρ 8 = .ptr c8 0
 k12 : lk ρ 12 = .cp M.cells 0
 k13 : lk ρ 13 = byt M.b
 k14 : lk ρ 14 = .int .u32 addr.toNat
 k15 : lk ρ 15 = .int .u32 w.toNat
 k16 : lk ρ 16 = .int .i64 n
 k4 : lk ρ 4 = .cp M.cells 0
 k2 : lk ρ 2 = .int .i64 n
 k3 : lk ρ 3 = .int .u32 w.toNat
 k20 : lk ρ 20 = .cp M.cells 1
 k21 : lk ρ 21 = .ro (bos M.w) M.w.length
 k24 : lk ρ 24 = .cp M.cells 2
 k25 : lk ρ 25 = .ro (qws M.g) M.g.length
 f5 : 5 ∈ pre → lk ρ 17 = byt (leB w n)
 f6 : 6 ∈ pre → lk ρ 18 = byt B
 f7 : 7 ∈ pre → lk ρ 19 = .sl b19 0 0 0
 f10 : 10 ∈ pre → lk ρ 22 = .sl bw (List.length pw) M.w.length cw
 f11 : 11 ∈ pre → lk ρ 23 = .sl b23 0 0 0
 f14 : 14 ∈ pre → lk ρ 26 = .sl bg (List.length pg) M.g.length cg
 f15 : 15 ∈ pre → lk ρ 27 = .agg [byt B, .sl bw (List.length pw) M.w.length cw, .sl bg (List.length pg) M.g.length cg]
 f16 : 16 ∈ pre → lk ρ 10 = .ptr c10 0
 d10 : 10 ∈ pre → 7 ∈ pre
 d14 : 14 ∈ pre → 11 ∈ pre
 d15 : 15 ∈ pre → 6 ∈ pre ∧ 10 ∈ pre ∧ 14 ∈ pre
 d17 : 17 ∈ pre → 15 ∈ pre ∧ 16 ∈ pre
 bag : Bag h H ((if 10 ∈ pre then [(bw, ⟨pw ++ bos M.w, sw⟩)] else if 7 ∈ pre then [(b19, ⟨[], 0⟩)] else []) ++ ((if 14 ∈ pre then [(bg, ⟨pg ++ qws M.g, sg⟩)] else if 11 ∈ pre then [(b23, ⟨[], 0⟩)] else []) ++
  ((if 17 ∈ pre then [(c10, ⟨[byt B, .sl bw (List.length pw) M.w.length cw, .sl bg (List.length pg) M.g.length cg], 0⟩)] else if 16 ∈ pre then [(c10, ⟨[.nils, .nils, .nils], 0⟩)] else []) ++ [(c8, ⟨[.nils, .nils, .nils], 0⟩)])))
theorem rStore_spec (hM : M.wf) (addr : BitVec 32) (n : Nat) (w : BitVec 32) (hz : askedN M.b.length addr n = 0) : Spec Tryz.prog G 54 [ramV M, .int .u32 addr.toNat, .int .i64 n, .int .u32 w.toNat] h
    (Is (.tup [ramV (M.store addr n w).1, .bool (M.store addr n w).2]) h) := by
  have hlt := addr.isLt
  have hH : hasN M.b.length addr n = true := by unfold askedN at hz; split at hz; omega; split at hz; omega; split at hz; assumption; omega
  have hn : n = 1 ∨ n = 2 ∨ n = 4 := by unfold askedN at hz; split at hz <;> omega
  have hH' := hH
  simp only [hasN, Bool.and_eq_true, decide_eq_true_eq] at hH'
  have hll : (leB w n).length = n := leB_len w n
  have hwf := hM
  unfold IRam.wf at hwf
  have rm0 : M.cells[0]? = some (byt M.b) := rfl
  have rm1 : M.cells[1]? = some (.ro (bos M.w) M.w.length) := rfl
  have rm2 : M.cells[2]? = some (.ro (qws M.g) M.g.length) := rfl
  have rml : M.cells.length = 3 := rfl
  obtain ⟨k, hk⟩ : ∃ k, addr.toNat - 2147483648 = k := ⟨_, rfl⟩
  have hk' : (addr.toNat : Int) - 2147483648 = k := by omega
  obtain ⟨p, hp⟩ : ∃ p, k / 64 = p := ⟨_, rfl⟩
  have hp' : (k : Int).tdiv 64 = (p : Int) := by rw [← hp]; simp
  have hS : M.store addr n w = (if M.w.getD p false then ({ M.put k (leB w n) with w := M.w.set p false, g := M.g.set p (M.g.getD p 0#64 + 1#64) }, true) else (M.put k (leB w n), false)) := by simp only [IRam.store, hk, hp]; rfl
  have hpl : p < M.w.length := by omega
  have hpl2 : p < M.g.length := by omega
  refine Spec.weak (Q := fun r F => ∃ r1, r = .tup [r1, .bool (M.store addr n w).2] ∧ OwnR h (M.store addr n w).1 r1 F) ?_ ?_
  · have tail : ∀ (c8 c10 bw cw sw bg cg sg : Nat) (pw pg : List AV) (H : Heap) (l : List (Nat × Blk)), Bag h H l → (c10, ⟨[byt (M.b.take k ++ leB w n ++ M.b.drop (k + n)), .sl bw (List.length pw) M.w.length cw, .sl bg (List.length pg) M.g.length cg], 0⟩) ∈ l → (c8, ⟨[.nils, .nils, .nils], 0⟩) ∈ l → (bw, ⟨pw ++ bos M.w, sw⟩) ∈ l → (bg, ⟨pg ++ qws M.g, sg⟩) ∈ l →
        (c8 ≠ c10 ∧ c8 ≠ bw ∧ c8 ≠ bg ∧ c10 ≠ bw ∧ c10 ≠ bg ∧ bw ≠ bg) →
        wpc Tryz.prog G Tryz.f54.ntmps C54_15 (retQ C54r (fun r F => ∃ r1, r = .tup [r1, .bool (M.store addr n w).2] ∧ OwnR h (M.store addr n w).1 r1 F)) [(1, .int .u32 addr.toNat), (8, .ptr c8 0), (10, .ptr c10 0)]
          H := by
      intro c8 c10 bw cw sw bg cg sg pw pg H l hB m10 m8 mw mg ⟨n1, n2, n3, n4, n5, n6⟩
      obtain ⟨H4, hH4⟩ : ∃ H4, H = H4 := ⟨_, rfl⟩
      have f10 : h c10 = none := hB.new _ m10
      have f8 : h c8 = none := hB.new _ m8
      have fw : h bw = none := hB.new _ mw
      have fg : h bg = none := hB.new _ mg
      have s4 : Sub h H4 := hH4 ▸ hB.sub
      have g10 := hB.at m10
      have g8 := hB.at m8
      have gw := hB.at mw
      have gg := hB.at mg
      rw [hH4] at g10 g8 gw gg
      have b1 := row_b pw M.w p hpl
      have b2 := rset_b pw M.w p false
      have q1 := row_q pg M.g p hpl2
      have q2 := rset_q pg M.g p (M.g.getD p 0#64 + 1#64)
      rw [hH4]
      clear hH4
      have hP : (M.put k (leB w n)).b = M.b.take k ++ leB w n ++ M.b.drop (k + n) := by simp [IRam.put, hll]
      have pa3 : ∀ a b c : AV, partOf [a, b, c] 0 (some 3) = some (.agg [a, b, c]) := fun _ _ _ => rfl
      have u1 : ∀ (H : Heap) X, upd H bw X c10 = H c10 := fun H X => upd_ne n4
      have u2 : ∀ (H : Heap) X, upd H bw X c8 = H c8 := fun H X => upd_ne n2
      have u3 : ∀ (H : Heap) X, upd H bw X bg = H bg := fun H X => upd_ne (Ne.symm n6)
      have u4 : ∀ (H : Heap) X, upd H bg X c10 = H c10 := fun H X => upd_ne n5
      have u5 : ∀ (H : Heap) X, upd H bg X c8 = H c8 := fun H X => upd_ne n3
      have u6 : ∀ (H : Heap) X, upd H bg X bw = H bw := fun H X => upd_ne n6
      have u7 : ∀ (H : Heap) X, upd H c8 X bw = H bw := fun H X => upd_ne (Ne.symm n2)
      have u8 : ∀ (H : Heap) X, upd H c8 X bg = H bg := fun H X => upd_ne (Ne.symm n3)
      have lb1 : pw.length + p + 1 ≤ (pw ++ bos M.w).length := by simp [bos]; omega
      have lb2 : pg.length + p + 1 ≤ (pg ++ qws M.g).length := by simp [qws]; omega
      cases hit : M.w.getD p false with
      | false =>
        rw [hit, if_neg (by simp)] at hS
        rw [hS]
        simp (disch := omega) only [push_cast, simprocAttr, wrap_i64, toNat_ofInt64, Nat.min_eq_left, Int.toNat_of_nonneg, hk', hp', g10, g8, gw, gg, b1, b2, q1, q2, hit, pa3, u1, u2, u3, u4, u5, u6, u7, u8]
        refine ⟨hpl, _, rfl, bw, pw, cw, sw, bg, pg, cg, sg, by rw [hP]; rfl, by rw [upd_ne (Ne.symm n2)]; exact gw, by rw [upd_ne (Ne.symm n3)]; exact gg, n6, ⟨fw, fg⟩, s4.set f8⟩
      | true =>
        rw [hit, if_pos rfl] at hS
        rw [hS]
        simp (disch := omega) only [push_cast, simprocAttr, wrap_i64, toNat_ofInt64, Nat.min_eq_left, Int.toNat_of_nonneg, hk', hp', g10, g8, gw, gg, b1, b2, q1, q2, hit, pa3, u1, u2, u3, u4, u5, u6, u7, u8]
        refine ⟨hpl, hpl, lb1, hpl2, hpl2, lb2, _, rfl, bw, pw, cw, sw, bg, pg, cg, sg, by rw [hP]; simp, ?_, ?_, n6, ⟨fw, fg⟩, ((s4.set fw).set fg).set f8⟩
        · rw [upd_ne (Ne.symm n2), upd_ne n6, upd_same]
        · rw [upd_ne (Ne.symm n3), upd_same]
    obtain ⟨T, hX, hW⟩ : ∃ T, C54_1 = ACode.dregt (opsOf C54_1) (edgOf C54_1) (.r 0 (.r 1 (.r 2 (.r 3 (.r 4 (.r 8 (.r 9 (.r 12 (.r 13 T))))))))) ∧
        wlk [5, 6, 7, 10, 11, 14, 15, 16, 17] [0, 1, 2, 3, 4, 8, 9, 12, 13] [15] (fun i => if i = 6 then [5] else if i = 10 then [7] else if i = 14 then [11] else if i = 15 then [6, 10, 14] else if i = 17 then [15, 16] else []) T [] = true := ⟨_, rfl, by decide⟩
    refine Spec.walk C54ok rfl ?_
    show wpc _ _ _ (.seq [1, 2, 3, 4, 8] C54_0 (.seq [1, 8, 10] C54_1 C54_15)) _ _ _
    generalize hY : C54_1 = Y
    simp only [push_cast, simprocAttr, rm0, rm1, rm2, rml]
    intro c8 hc8
    have B0 := (Bag.start h).alloc ⟨[.nils, .nils, .nils], 0⟩ hc8
    obtain ⟨H0, hH0⟩ : ∃ H0, upd h c8 ⟨[.nils, .nils, .nils], 0⟩ = H0 := ⟨_, rfl⟩
    rw [hH0] at B0 ⊢
    clear hH0
    have rP : ∀ H : Heap, Spec Tryz.prog G 45 [byt M.b, .int .u32 addr.toNat, byt (leB w n)] H (Is (byt (M.b.take k ++ leB w n ++ M.b.drop (k + n))) H) := fun H => by
      have := rPut_spec (G := G) (h := H) M.b (leB w n) addr (by omega) (by omega) (by omega)
      rw [hk, hll] at this
      exact this
    have lw : (bos M.w).length = M.w.length := bos_len _
    have lg : (qws M.g).length = M.g.length := qws_len _
    have tk1 : (bos M.w).take M.w.length = bos M.w := List.take_of_length_le (by omega)
    have tk2 : (qws M.g).take M.g.length = qws M.g := List.take_of_length_le (by omega)
    rw [← hY, hX, wpc_dregt]
    clear hY hX
    simp only [push_cast, simprocAttr, rm0, rm1, rm2, rml, opsOf]
    refine dwpT_inv (I := fun pre ρ H => ∃ b19 bw cw sw b23 bg cg sg c10 pw pg, SI h M addr w n (M.b.take k ++ leB w n ++ M.b.drop (k + n)) c8 b19 bw cw sw b23 bg cg sg c10 pw pg pre ρ H) ?_ ?_ T [] _ _ hW ⟨0, 0, 0, 0, 0, 0, 0, 0, 0, [], [], ?_⟩
    · intro i hi fl pre ρ H K hfl hni hD hI hK
      obtain ⟨b19, bw, cw, sw, b23, bg, cg, sg, c10, pw, pg, hI⟩ := hI
      have hst : ∀ H', stb G (opsOf C54_1) ρ H' fl := fun H' => stb_of (S := fl) (fun j hj => by
        have z := hfl j hj
        simp only [List.mem_cons, List.not_mem_nil, or_false] at z
        rcases z with (rfl | rfl | rfl | rfl | rfl | rfl | rfl | rfl | rfl) | ⟨rfl, hm⟩
        all_goals simp only [opsOf, List.getElem?_cons_succ, List.getElem?_cons_zero, bindO, pend, gd]
        all_goals try simp only [push_cast, simprocAttr, hI.k1, hI.k8, hI.k12, hI.k13, hI.k14, hI.k15, hI.k16, hI.k4, hI.k2, hI.k3, hI.k20, hI.k21, hI.k24, hI.k25, rm0, rm1, rm2, rml]
        have z := hI.d15 hm
        simp only [push_cast, simprocAttr, hI.f6 z.1, hI.f10 z.2.1, hI.f14 z.2.2, hI.f15 hm]) fl (fun j hj => hj)
      simp only [opsOf] at hst
      simp only [List.mem_cons, List.not_mem_nil, or_false] at hi
      rcases hi with rfl | rfl | rfl | rfl | rfl | rfl | rfl | rfl | rfl
      · -- 5
        simp (disch := omega) only [push_cast, simprocAttr, wrap_i64, toNat_ofInt64, Nat.min_eq_left, Int.toNat_of_nonneg, hI.k1, hI.k8, hI.k12, hI.k13, hI.k14, hI.k15, hI.k16, hI.k4, hI.k2, hI.k3, hI.k20, hI.k21, hI.k24, hI.k25, rm0, rm1, rm2, rml, lw, lg, tk1, tk2]
        refine (rBytes_spec w n (by omega)).to ?_
        simp (disch := omega) only [push_cast, simprocAttr, wrap_i64, toNat_ofInt64, Nat.min_eq_left, Int.toNat_of_nonneg, hI.k1, hI.k8, hI.k12, hI.k13, hI.k14, hI.k15, hI.k16, hI.k4, hI.k2, hI.k3, hI.k20, hI.k21, hI.k24, hI.k25, rm0, rm1, rm2, rml, lw, lg, tk1, tk2]
        exact ⟨hst _, hK _ _ ⟨b19, bw, cw, sw, b23, bg, cg, sg, c10, pw, pg, {
              k1 := (by simpa [lk, put] using hI.k1),
              k8 := (by simpa [lk, put] using hI.k8),
              k12 := (by simpa [lk, put] using hI.k12),
              k13 := (by simpa [lk, put] using hI.k13),
              k14 := (by simpa [lk, put] using hI.k14),
              k15 := (by simpa [lk, put] using hI.k15),
              k16 := (by simpa [lk, put] using hI.k16),
              k4 := (by simpa [lk, put] using hI.k4),
              k2 := (by simpa [lk, put] using hI.k2),
              k3 := (by simpa [lk, put] using hI.k3),
              k20 := (by simpa [lk, put] using hI.k20),
              k21 := (by simpa [lk, put] using hI.k21),
              k24 := (by simpa [lk, put] using hI.k24),
              k25 := (by simpa [lk, put] using hI.k25),
              f5 := fun _ => (by simp [lk, put]),
              f6 := fun q => (by have z := hI.f6 (by simpa using q); simpa [lk, put] using z),
              f7 := fun q => (by have z := hI.f7 (by simpa using q); simpa [lk, put] using z),
              f10 := fun q => (by have z := hI.f10 (by simpa using q); simpa [lk, put] using z),
              f11 := fun q => (by have z := hI.f11 (by simpa using q); simpa [lk, put] using z),
              f14 := fun q => (by have z := hI.f14 (by simpa using q); simpa [lk, put] using z),
              f15 := fun q => (by have z := hI.f15 (by simpa using q); simpa [lk, put] using z),
              f16 := fun q => (by have z := hI.f16 (by simpa using q); simpa [lk, put] using z),
              d10 := fun q => (by have z := hI.d10; simp only [List.mem_cons] at q ⊢; grind),
              d14 := fun q => (by have z := hI.d14; simp only [List.mem_cons] at q ⊢; grind),
              d15 := fun q => (by have z := hI.d15; simp only [List.mem_cons] at q ⊢; grind),
              d17 := fun q => (by have z := hI.d17; simp only [List.mem_cons] at q ⊢; grind),
              bag := (by have z := hI.bag; simpa using z) }⟩⟩
      · -- 6
        have z5 := hI.f5 (hD 5 (by simp))
        simp (disch := omega) only [push_cast, simprocAttr, wrap_i64, toNat_ofInt64, Nat.min_eq_left, Int.toNat_of_nonneg, hI.k1, hI.k8, hI.k12, hI.k13, hI.k14, hI.k15, hI.k16, hI.k4, hI.k2, hI.k3, hI.k20, hI.k21, hI.k24, hI.k25, rm0, rm1, rm2, rml, lw, lg, tk1, tk2, z5]
        refine (rP _).to ?_
        simp (disch := omega) only [push_cast, simprocAttr, wrap_i64, toNat_ofInt64, Nat.min_eq_left, Int.toNat_of_nonneg, hI.k1, hI.k8, hI.k12, hI.k13, hI.k14, hI.k15, hI.k16, hI.k4, hI.k2, hI.k3, hI.k20, hI.k21, hI.k24, hI.k25, rm0, rm1, rm2, rml, lw, lg, tk1, tk2, z5]
        exact ⟨hst _, hK _ _ ⟨b19, bw, cw, sw, b23, bg, cg, sg, c10, pw, pg, {
              k1 := (by simpa [lk, put] using hI.k1),
              k8 := (by simpa [lk, put] using hI.k8),
              k12 := (by simpa [lk, put] using hI.k12),
              k13 := (by simpa [lk, put] using hI.k13),
              k14 := (by simpa [lk, put] using hI.k14),
              k15 := (by simpa [lk, put] using hI.k15),
              k16 := (by simpa [lk, put] using hI.k16),
              k4 := (by simpa [lk, put] using hI.k4),
              k2 := (by simpa [lk, put] using hI.k2),
              k3 := (by simpa [lk, put] using hI.k3),
              k20 := (by simpa [lk, put] using hI.k20),
              k21 := (by simpa [lk, put] using hI.k21),
              k24 := (by simpa [lk, put] using hI.k24),
              k25 := (by simpa [lk, put] using hI.k25),
              f5 := fun q => (by have z := hI.f5 (by simpa using q); simpa [lk, put] using z),
              f6 := fun _ => (by simp [lk, put]),
              f7 := fun q => (by have z := hI.f7 (by simpa using q); simpa [lk, put] using z),
              f10 := fun q => (by have z := hI.f10 (by simpa using q); simpa [lk, put] using z),
              f11 := fun q => (by have z := hI.f11 (by simpa using q); simpa [lk, put] using z),
              f14 := fun q => (by have z := hI.f14 (by simpa using q); simpa [lk, put] using z),
              f15 := fun q => (by have z := hI.f15 (by simpa using q); simpa [lk, put] using z),
              f16 := fun q => (by have z := hI.f16 (by simpa using q); simpa [lk, put] using z),
              d10 := fun q => (by have z := hI.d10; simp only [List.mem_cons] at q ⊢; grind),
              d14 := fun q => (by have z := hI.d14; simp only [List.mem_cons] at q ⊢; grind),
              d15 := fun q => (by have z := hI.d15; simp only [List.mem_cons] at q ⊢; grind),
              d17 := fun q => (by have z := hI.d17; simp only [List.mem_cons] at q ⊢; grind),
              bag := (by have z := hI.bag; simpa using z) }⟩⟩
      · -- 7
        simp (disch := omega) only [push_cast, simprocAttr, wrap_i64, toNat_ofInt64, Nat.min_eq_left, Int.toNat_of_nonneg, hI.k1, hI.k8, hI.k12, hI.k13, hI.k14, hI.k15, hI.k16, hI.k4, hI.k2, hI.k3, hI.k20, hI.k21, hI.k24, hI.k25, rm0, rm1, rm2, rml, lw, lg, tk1, tk2]
        intro b hb
        have n10 : 10 ∉ pre := fun q => hni (hI.d10 q)
        have z := hI.bag.alloc ⟨[], 0⟩ hb
        rw [if_neg n10, if_neg hni] at z
        exact ⟨hst _, hK _ _ ⟨b, bw, cw, sw, b23, bg, cg, sg, c10, pw, pg, {
              k1 := (by simpa [lk, put] using hI.k1),
              k8 := (by simpa [lk, put] using hI.k8),
              k12 := (by simpa [lk, put] using hI.k12),
              k13 := (by simpa [lk, put] using hI.k13),
              k14 := (by simpa [lk, put] using hI.k14),
              k15 := (by simpa [lk, put] using hI.k15),
              k16 := (by simpa [lk, put] using hI.k16),
              k4 := (by simpa [lk, put] using hI.k4),
              k2 := (by simpa [lk, put] using hI.k2),
              k3 := (by simpa [lk, put] using hI.k3),
              k20 := (by simpa [lk, put] using hI.k20),
              k21 := (by simpa [lk, put] using hI.k21),
              k24 := (by simpa [lk, put] using hI.k24),
              k25 := (by simpa [lk, put] using hI.k25),
              f5 := fun q => (by have z := hI.f5 (by simpa using q); simpa [lk, put] using z),
              f6 := fun q => (by have z := hI.f6 (by simpa using q); simpa [lk, put] using z),
              f7 := fun _ => (by simp [lk, put]),
              f10 := fun q => (by have z := hI.f10 (by simpa using q); simpa [lk, put] using z),
              f11 := fun q => (by have z := hI.f11 (by simpa using q); simpa [lk, put] using z),
              f14 := fun q => (by have z := hI.f14 (by simpa using q); simpa [lk, put] using z),
              f15 := fun q => (by have z := hI.f15 (by simpa using q); simpa [lk, put] using z),
              f16 := fun q => (by have z := hI.f16 (by simpa using q); simpa [lk, put] using z),
              d10 := fun q => (by have z := hI.d10; simp only [List.mem_cons] at q ⊢; grind),
              d14 := fun q => (by have z := hI.d14; simp only [List.mem_cons] at q ⊢; grind),
              d15 := fun q => (by have z := hI.d15; simp only [List.mem_cons] at q ⊢; grind),
              d17 := fun q => (by have z := hI.d17; simp only [List.mem_cons] at q ⊢; grind),
              bag := (by simpa [n10] using z) }⟩⟩
      · -- 10
        have z7 := hI.f7 (hD 7 (by simp))
        simp (disch := omega) only [push_cast, simprocAttr, wrap_i64, toNat_ofInt64, Nat.min_eq_left, Int.toNat_of_nonneg, hI.k1, hI.k8, hI.k12, hI.k13, hI.k14, hI.k15, hI.k16, hI.k4, hI.k2, hI.k3, hI.k20, hI.k21, hI.k24, hI.k25, rm0, rm1, rm2, rml, lw, lg, tk1, tk2, z7]
        have m7 := hD 7 (by simp)
        have n15 : 15 ∉ pre := fun q => hni (hI.d15 q).2.1
        have n17 : 17 ∉ pre := fun q => n15 (hI.d17 q).1
        have z := hI.bag
        rw [if_neg hni, if_pos m7, if_neg n17] at z
        refine appQ_new z (.refl _) (by omega) (by omega) ?_
        intro b' pre' cap' sp' H' hB'
        exact ⟨hst _, hK _ _ ⟨b19, b', cap', sp', b23, bg, cg, sg, c10, pre', pg, {
              k1 := (by simpa [lk, put] using hI.k1),
              k8 := (by simpa [lk, put] using hI.k8),
              k12 := (by simpa [lk, put] using hI.k12),
              k13 := (by simpa [lk, put] using hI.k13),
              k14 := (by simpa [lk, put] using hI.k14),
              k15 := (by simpa [lk, put] using hI.k15),
              k16 := (by simpa [lk, put] using hI.k16),
              k4 := (by simpa [lk, put] using hI.k4),
              k2 := (by simpa [lk, put] using hI.k2),
              k3 := (by simpa [lk, put] using hI.k3),
              k20 := (by simpa [lk, put] using hI.k20),
              k21 := (by simpa [lk, put] using hI.k21),
              k24 := (by simpa [lk, put] using hI.k24),
              k25 := (by simpa [lk, put] using hI.k25),
              f5 := fun q => (by have z := hI.f5 (by simpa using q); simpa [lk, put] using z),
              f6 := fun q => (by have z := hI.f6 (by simpa using q); simpa [lk, put] using z),
              f7 := fun q => (by have z := hI.f7 (by simpa using q); simpa [lk, put] using z),
              f10 := fun _ => (by simp [lk, put]),
              f11 := fun q => (by have z := hI.f11 (by simpa using q); simpa [lk, put] using z),
              f14 := fun q => (by have z := hI.f14 (by simpa using q); simpa [lk, put] using z),
              f15 := fun q => (absurd (by simpa using q) n15),
              f16 := fun q => (by have z := hI.f16 (by simpa using q); simpa [lk, put] using z),
              d10 := fun q => (by have z := hI.d10; simp only [List.mem_cons] at q ⊢; grind),
              d14 := fun q => (by have z := hI.d14; simp only [List.mem_cons] at q ⊢; grind),
              d15 := fun q => (by have z := hI.d15; simp only [List.mem_cons] at q ⊢; grind),
              d17 := fun q => (by have z := hI.d17; simp only [List.mem_cons] at q ⊢; grind),
              bag := (by simpa [n17, n15] using hB') }⟩⟩
      · -- 11
        simp (disch := omega) only [push_cast, simprocAttr, wrap_i64, toNat_ofInt64, Nat.min_eq_left, Int.toNat_of_nonneg, hI.k1, hI.k8, hI.k12, hI.k13, hI.k14, hI.k15, hI.k16, hI.k4, hI.k2, hI.k3, hI.k20, hI.k21, hI.k24, hI.k25, rm0, rm1, rm2, rml, lw, lg, tk1, tk2]
        intro b hb
        have n14 : 14 ∉ pre := fun q => hni (hI.d14 q)
        have z := hI.bag.alloc ⟨[], 0⟩ hb
        rw [if_neg n14, if_neg hni] at z
        have z := z.perm (List.perm_middle (l₂ := _)).symm
        exact ⟨hst _, hK _ _ ⟨b19, bw, cw, sw, b, bg, cg, sg, c10, pw, pg, {
              k1 := (by simpa [lk, put] using hI.k1),
              k8 := (by simpa [lk, put] using hI.k8),
              k12 := (by simpa [lk, put] using hI.k12),
              k13 := (by simpa [lk, put] using hI.k13),
              k14 := (by simpa [lk, put] using hI.k14),
              k15 := (by simpa [lk, put] using hI.k15),
              k16 := (by simpa [lk, put] using hI.k16),
              k4 := (by simpa [lk, put] using hI.k4),
              k2 := (by simpa [lk, put] using hI.k2),
              k3 := (by simpa [lk, put] using hI.k3),
              k20 := (by simpa [lk, put] using hI.k20),
              k21 := (by simpa [lk, put] using hI.k21),
              k24 := (by simpa [lk, put] using hI.k24),
              k25 := (by simpa [lk, put] using hI.k25),
              f5 := fun q => (by have z := hI.f5 (by simpa using q); simpa [lk, put] using z),
              f6 := fun q => (by have z := hI.f6 (by simpa using q); simpa [lk, put] using z),
              f7 := fun q => (by have z := hI.f7 (by simpa using q); simpa [lk, put] using z),
              f10 := fun q => (by have z := hI.f10 (by simpa using q); simpa [lk, put] using z),
              f11 := fun _ => (by simp [lk, put]),
              f14 := fun q => (by have z := hI.f14 (by simpa using q); simpa [lk, put] using z),
              f15 := fun q => (by have z := hI.f15 (by simpa using q); simpa [lk, put] using z),
              f16 := fun q => (by have z := hI.f16 (by simpa using q); simpa [lk, put] using z),
              d10 := fun q => (by have z := hI.d10; simp only [List.mem_cons] at q ⊢; grind),
              d14 := fun q => (by have z := hI.d14; simp only [List.mem_cons] at q ⊢; grind),
              d15 := fun q => (by have z := hI.d15; simp only [List.mem_cons] at q ⊢; grind),
              d17 := fun q => (by have z := hI.d17; simp only [List.mem_cons] at q ⊢; grind),
              bag := (by simpa [n14] using z) }⟩⟩
      · -- 14
        have z11 := hI.f11 (hD 11 (by simp))
        simp (disch := omega) only [push_cast, simprocAttr, wrap_i64, toNat_ofInt64, Nat.min_eq_left, Int.toNat_of_nonneg, hI.k1, hI.k8, hI.k12, hI.k13, hI.k14, hI.k15, hI.k16, hI.k4, hI.k2, hI.k3, hI.k20, hI.k21, hI.k24, hI.k25, rm0, rm1, rm2, rml, lw, lg, tk1, tk2, z11]
        have m11 := hD 11 (by simp)
        have n15 : 15 ∉ pre := fun q => hni (hI.d15 q).2.2
        have n17 : 17 ∉ pre := fun q => n15 (hI.d17 q).1
        have z := hI.bag
        rw [if_neg hni, if_pos m11, if_neg n17] at z
        refine appQ_new z List.perm_middle (by omega) (by omega) ?_
        intro b' pre' cap' sp' H' hB'
        have hB' := hB'.perm (List.perm_middle (l₂ := _)).symm
        exact ⟨hst _, hK _ _ ⟨b19, bw, cw, sw, b23, b', cap', sp', c10, pw, pre', {
              k1 := (by simpa [lk, put] using hI.k1),
              k8 := (by simpa [lk, put] using hI.k8),
              k12 := (by simpa [lk, put] using hI.k12),
              k13 := (by simpa [lk, put] using hI.k13),
              k14 := (by simpa [lk, put] using hI.k14),
              k15 := (by simpa [lk, put] using hI.k15),
              k16 := (by simpa [lk, put] using hI.k16),
              k4 := (by simpa [lk, put] using hI.k4),
              k2 := (by simpa [lk, put] using hI.k2),
              k3 := (by simpa [lk, put] using hI.k3),
              k20 := (by simpa [lk, put] using hI.k20),
              k21 := (by simpa [lk, put] using hI.k21),
              k24 := (by simpa [lk, put] using hI.k24),
              k25 := (by simpa [lk, put] using hI.k25),
              f5 := fun q => (by have z := hI.f5 (by simpa using q); simpa [lk, put] using z),
              f6 := fun q => (by have z := hI.f6 (by simpa using q); simpa [lk, put] using z),
              f7 := fun q => (by have z := hI.f7 (by simpa using q); simpa [lk, put] using z),
              f10 := fun q => (by have z := hI.f10 (by simpa using q); simpa [lk, put] using z),
              f11 := fun q => (by have z := hI.f11 (by simpa using q); simpa [lk, put] using z),
              f14 := fun _ => (by simp [lk, put]),
              f15 := fun q => (absurd (by simpa using q) n15),
              f16 := fun q => (by have z := hI.f16 (by simpa using q); simpa [lk, put] using z),
              d10 := fun q => (by have z := hI.d10; simp only [List.mem_cons] at q ⊢; grind),
              d14 := fun q => (by have z := hI.d14; simp only [List.mem_cons] at q ⊢; grind),
              d15 := fun q => (by have z := hI.d15; simp only [List.mem_cons] at q ⊢; grind),
              d17 := fun q => (by have z := hI.d17; simp only [List.mem_cons] at q ⊢; grind),
              bag := (by simpa [n17, n15] using hB') }⟩⟩
      · -- 15
        have z6 := hI.f6 (hD 6 (by simp))
        have z10 := hI.f10 (hD 10 (by simp))
        have z14 := hI.f14 (hD 14 (by simp))
        simp (disch := omega) only [push_cast, simprocAttr, wrap_i64, toNat_ofInt64, Nat.min_eq_left, Int.toNat_of_nonneg, hI.k1, hI.k8, hI.k12, hI.k13, hI.k14, hI.k15, hI.k16, hI.k4, hI.k2, hI.k3, hI.k20, hI.k21, hI.k24, hI.k25, rm0, rm1, rm2, rml, lw, lg, tk1, tk2, z6, z10, z14]
        exact (hK _ _ ⟨b19, bw, cw, sw, b23, bg, cg, sg, c10, pw, pg, {
              k1 := (by simpa [lk, put] using hI.k1),
              k8 := (by simpa [lk, put] using hI.k8),
              k12 := (by simpa [lk, put] using hI.k12),
              k13 := (by simpa [lk, put] using hI.k13),
              k14 := (by simpa [lk, put] using hI.k14),
              k15 := (by simpa [lk, put] using hI.k15),
              k16 := (by simpa [lk, put] using hI.k16),
              k4 := (by simpa [lk, put] using hI.k4),
              k2 := (by simpa [lk, put] using hI.k2),
              k3 := (by simpa [lk, put] using hI.k3),
              k20 := (by simpa [lk, put] using hI.k20),
              k21 := (by simpa [lk, put] using hI.k21),
              k24 := (by simpa [lk, put] using hI.k24),
              k25 := (by simpa [lk, put] using hI.k25),
              f5 := fun q => (by have z := hI.f5 (by simpa using q); simpa [lk, put] using z),
              f6 := fun q => (by have z := hI.f6 (by simpa using q); simpa [lk, put] using z),
              f7 := fun q => (by have z := hI.f7 (by simpa using q); simpa [lk, put] using z),
              f10 := fun q => (by have z := hI.f10 (by simpa using q); simpa [lk, put] using z),
              f11 := fun q => (by have z := hI.f11 (by simpa using q); simpa [lk, put] using z),
              f14 := fun q => (by have z := hI.f14 (by simpa using q); simpa [lk, put] using z),
              f15 := fun _ => (by simp [lk, put]),
              f16 := fun q => (by have z := hI.f16 (by simpa using q); simpa [lk, put] using z),
              d10 := fun q => (by have z := hI.d10; simp only [List.mem_cons] at q ⊢; grind),
              d14 := fun q => (by have z := hI.d14; simp only [List.mem_cons] at q ⊢; grind),
              d15 := fun q => (by have z := hI.d15; simp only [List.mem_cons] at q ⊢; grind),
              d17 := fun q => (by have z := hI.d17; simp only [List.mem_cons] at q ⊢; grind),
              bag := (by have z := hI.bag; simpa using z) }⟩)
      · -- 16
        simp (disch := omega) only [push_cast, simprocAttr, wrap_i64, toNat_ofInt64, Nat.min_eq_left, Int.toNat_of_nonneg, hI.k1, hI.k8, hI.k12, hI.k13, hI.k14, hI.k15, hI.k16, hI.k4, hI.k2, hI.k3, hI.k20, hI.k21, hI.k24, hI.k25, rm0, rm1, rm2, rml, lw, lg, tk1, tk2]
        intro b hb
        have n17 : 17 ∉ pre := fun q => hni (hI.d17 q).2
        have z := hI.bag.alloc ⟨[.nils, .nils, .nils], 0⟩ hb
        rw [if_neg n17, if_neg hni] at z
        rw [← List.append_assoc] at z
        have z := z.perm (List.perm_middle (l₂ := _)).symm
        rw [List.append_assoc] at z
        exact ⟨hst _, hK _ _ ⟨b19, bw, cw, sw, b23, bg, cg, sg, b, pw, pg, {
              k1 := (by simpa [lk, put] using hI.k1),
              k8 := (by simpa [lk, put] using hI.k8),
              k12 := (by simpa [lk, put] using hI.k12),
              k13 := (by simpa [lk, put] using hI.k13),
              k14 := (by simpa [lk, put] using hI.k14),
              k15 := (by simpa [lk, put] using hI.k15),
              k16 := (by simpa [lk, put] using hI.k16),
              k4 := (by simpa [lk, put] using hI.k4),
              k2 := (by simpa [lk, put] using hI.k2),
              k3 := (by simpa [lk, put] using hI.k3),
              k20 := (by simpa [lk, put] using hI.k20),
              k21 := (by simpa [lk, put] using hI.k21),
              k24 := (by simpa [lk, put] using hI.k24),
              k25 := (by simpa [lk, put] using hI.k25),
              f5 := fun q => (by have z := hI.f5 (by simpa using q); simpa [lk, put] using z),
              f6 := fun q => (by have z := hI.f6 (by simpa using q); simpa [lk, put] using z),
              f7 := fun q => (by have z := hI.f7 (by simpa using q); simpa [lk, put] using z),
              f10 := fun q => (by have z := hI.f10 (by simpa using q); simpa [lk, put] using z),
              f11 := fun q => (by have z := hI.f11 (by simpa using q); simpa [lk, put] using z),
              f14 := fun q => (by have z := hI.f14 (by simpa using q); simpa [lk, put] using z),
              f15 := fun q => (by have z := hI.f15 (by simpa using q); simpa [lk, put] using z),
              f16 := fun _ => (by simp [lk, put]),
              d10 := fun q => (by have z := hI.d10; simp only [List.mem_cons] at q ⊢; grind),
              d14 := fun q => (by have z := hI.d14; simp only [List.mem_cons] at q ⊢; grind),
              d15 := fun q => (by have z := hI.d15; simp only [List.mem_cons] at q ⊢; grind),
              d17 := fun q => (by have z := hI.d17; simp only [List.mem_cons] at q ⊢; grind),
              bag := (by simpa [n17] using z) }⟩⟩
      · -- 17
        have z15 := hI.f15 (hD 15 (by simp))
        have z16 := hI.f16 (hD 16 (by simp))
        have z := hI.bag
        have m16 := hD 16 (by simp)
        rw [if_neg hni, if_pos m16, ← List.append_assoc] at z
        have z := (z.perm List.perm_middle).set ⟨[byt (M.b.take k ++ leB w n ++ M.b.drop (k + n)), .sl bw (List.length pw) M.w.length cw, .sl bg (List.length pg) M.g.length cg], 0⟩
        have e10 : H c10 = some ⟨[.nils, .nils, .nils], 0⟩ := hI.bag.at (by simp [hni, m16])
        simp (disch := omega) only [push_cast, simprocAttr, wrap_i64, toNat_ofInt64, Nat.min_eq_left, Int.toNat_of_nonneg, hI.k1, hI.k8, hI.k12, hI.k13, hI.k14, hI.k15, hI.k16, hI.k4, hI.k2, hI.k3, hI.k20, hI.k21, hI.k24, hI.k25, rm0, rm1, rm2, rml, lw, lg, tk1, tk2, z15, z16, e10]
        have z := z.perm (List.perm_middle (l₂ := _)).symm
        rw [List.append_assoc] at z
        exact ⟨hst _, hK _ _ ⟨b19, bw, cw, sw, b23, bg, cg, sg, c10, pw, pg, {
              k1 := (by simpa [lk, put] using hI.k1),
              k8 := (by simpa [lk, put] using hI.k8),
              k12 := (by simpa [lk, put] using hI.k12),
              k13 := (by simpa [lk, put] using hI.k13),
              k14 := (by simpa [lk, put] using hI.k14),
              k15 := (by simpa [lk, put] using hI.k15),
              k16 := (by simpa [lk, put] using hI.k16),
              k4 := (by simpa [lk, put] using hI.k4),
              k2 := (by simpa [lk, put] using hI.k2),
              k3 := (by simpa [lk, put] using hI.k3),
              k20 := (by simpa [lk, put] using hI.k20),
              k21 := (by simpa [lk, put] using hI.k21),
              k24 := (by simpa [lk, put] using hI.k24),
              k25 := (by simpa [lk, put] using hI.k25),
              f5 := fun q => (by have z := hI.f5 (by simpa using q); simpa [lk, put] using z),
              f6 := fun q => (by have z := hI.f6 (by simpa using q); simpa [lk, put] using z),
              f7 := fun q => (by have z := hI.f7 (by simpa using q); simpa [lk, put] using z),
              f10 := fun q => (by have z := hI.f10 (by simpa using q); simpa [lk, put] using z),
              f11 := fun q => (by have z := hI.f11 (by simpa using q); simpa [lk, put] using z),
              f14 := fun q => (by have z := hI.f14 (by simpa using q); simpa [lk, put] using z),
              f15 := fun q => (by have z := hI.f15 (by simpa using q); simpa [lk, put] using z),
              f16 := fun q => (by have z := hI.f16 (by simpa using q); simpa [lk, put] using z),
              d10 := fun q => (by have z := hI.d10; simp only [List.mem_cons] at q ⊢; grind),
              d14 := fun q => (by have z := hI.d14; simp only [List.mem_cons] at q ⊢; grind),
              d15 := fun q => (by have z := hI.d15; simp only [List.mem_cons] at q ⊢; grind),
              d17 := fun q => (by have z := hI.d17; simp only [List.mem_cons] at q ⊢; grind),
              bag := (by simpa using z) }⟩⟩
    · intro pre ρ H hall hI
      obtain ⟨b19, bw, cw, sw, b23, bg, cg, sg, c10, pw, pg, hI⟩ := hI
      have hb := hI.bag
      rw [if_pos (hall 10 (by simp)), if_pos (hall 14 (by simp)), if_pos (hall 17 (by simp))] at hb
      have hk1 : keep [1, 8, 10] ρ = [(1, .int .u32 addr.toNat), (8, .ptr c8 0), (10, .ptr c10 0)] := by simp only [keep, List.map_cons, List.map_nil, hI.k1, hI.k8, hI.f16 (hall 16 (by simp))]
      have hnd := hb.nd
      simp only [List.cons_append, List.nil_append, List.map_cons, List.map_nil, List.nodup_cons, List.mem_cons, List.not_mem_nil, or_false, not_or] at hnd
      have := tail c8 c10 bw cw sw bg cg sg pw pg H _ hb (by simp) (by simp) (by simp) (by simp) (by omega)
      rw [← hk1] at this
      exact this
    · constructor <;> first | rfl | (intro q; cases q) | exact B0
  · rintro _ F ⟨r1, rfl, ho⟩
    exact ⟨_, _, ⟨rfl, rfl⟩, Le.tupb ho.le⟩
end
end Go.Ab
end
section
namespace Go.Ab
open Go.Proofs
variable {G : Glo} {h : Heap}
theorem check_right {b : IBk} (hc : b.check = 0) : b.right = true := by
 unfold IBk.check at hc
 split at hc
 ·cases hc
 ·split at hc
  ·assumption
  ·cases hc
theorem oc_at {regs : List (BitVec 32)} (hl : regs.length = 32) {pc : BitVec 32} {done why exit : Int} : (outC regs pc done why exit)[32]? = some (.int .u32 (pc.toNat : Int)) ∧ (outC regs pc done why exit)[33]? = some (.int .i64 done) ∧ (outC regs pc done why exit)[34]? = some (.int .i64 why) ∧ (outC regs pc done why exit)[35]? = some (.int .i64 exit) := by
 have hw : (wds regs).length = 32 := by simp [wds, hl]
 refine ⟨?_, ?_, ?_, ?_⟩ <;> (rw [outC, List.getElem?_append_right (by omega), hw]; rfl)
end Go.Ab
end
section
namespace Go.Ab
open Go.Proofs
variable {G : Glo} {h : Heap}
def VV (H : Heap) (vv : AV) (vals : List (BitVec 32)) : Prop := ∃ c pre cap sp, vv = .sl c (List.length pre) vals.length cap ∧ H c = some ⟨pre ++ wds vals, sp⟩
def oT (regs : List (BitVec 32)) (pc : BitVec 32) (done why exit : Int) (T : List AV) : List AV := outC regs pc done why exit ++ T
section
variable {regs : List (BitVec 32)} {pc : BitVec 32} {done why exit : Int} {T : List AV}
theorem oT_len (hl : regs.length = 32) (ht : T.length = 3) : (oT regs pc done why exit T).length = 39 := by simp [oT, oc_len hl, ht]
theorem oT_z (hl : regs.length = 32) : splice [.int .u32 0, .int .u32 0, .int .u32 0, .int .u32 0, .int .u32 0, .int .u32 0, .int .u32 0, .int .u32 0, .int .u32 0, .int .u32 0, .int .u32 0, .int .u32 0, .int .u32 0, .int .u32 0, .int .u32 0, .int .u32 0, .int .u32 0, .int .u32 0, .int .u32 0, .int .u32 0, .int .u32 0, .int .u32 0, .int .u32 0, .int .u32 0, .int .u32 0, .int .u32 0, .int .u32 0, .int .u32 0, .int .u32 0, .int .u32 0, .int .u32 0, .int .u32 0, .int .u32 0, .int .i64 0, .int .i64 0, .int .i64 0, .nils, .nils, .nils] 0 (wds regs) = oT regs 0 0 0 0 [.nils, .nils, .nils] := by
 have hw : (wds regs).length = 32 := by simp [wds, hl]
 rw [splice_ne (by omega), List.take_zero, List.nil_append, Nat.zero_add, hw, oT, outC, List.append_assoc]
 rfl
theorem oT_set (hl : regs.length = 32) (i : Nat) (hi : i < 32) (w : BitVec 32) : (oT regs pc done why exit T).set i (.int .u32 w.toNat) = oT (regs.set i w) pc done why exit T := by
 rw [oT, List.set_append_left _ _ (by rw [oc_len hl]; omega), oc_set hl i hi]; rfl
theorem oT_32 (hl : regs.length = 32) (w : BitVec 32) : (oT regs pc done why exit T).set 32 (.int .u32 w.toNat) = oT regs w done why exit T := by
 rw [oT, List.set_append_left _ _ (by rw [oc_len hl]; omega), oc_pc hl]; rfl
theorem oT_33 (hl : regs.length = 32) (d : Int) : (oT regs pc done why exit T).set 33 (.int .i64 d) = oT regs pc d why exit T := by
 rw [oT, List.set_append_left _ _ (by rw [oc_len hl]; omega), oc_33 hl]; rfl
theorem oT_34 (hl : regs.length = 32) (d : Int) : (oT regs pc done why exit T).set 34 (.int .i64 d) = oT regs pc done d exit T := by
 rw [oT, List.set_append_left _ _ (by rw [oc_len hl]; omega), oc_34 hl]; rfl
theorem oT_35 (hl : regs.length = 32) (d : Int) : (oT regs pc done why exit T).set 35 (.int .i64 d) = oT regs pc done why d T := by
 rw [oT, List.set_append_left _ _ (by rw [oc_len hl]; omega), oc_35 hl]; rfl
theorem oT_36 (hl : regs.length = 32) (ht : T.length = 3) (U : List AV) (hu : U.length = 3) : splice (oT regs pc done why exit T) 36 U = oT regs pc done why exit U := by
 rw [splice_ne (by omega), oT, hu, List.take_append_of_le_length (by rw [oc_len hl]; omega), List.take_of_length_le (by rw [oc_len hl]; omega), List.drop_of_length_le (by simp [oc_len hl, ht])]
 simp [oT]
theorem oT_all (hl : regs.length = 32) (ht : T.length = 3) : partOf (oT regs pc done why exit T) 0 (some 39) = some (.agg (oT regs pc done why exit T)) := partOf_all (oT_len hl ht)
theorem oT_put (hl : regs.length = 32) (ht : T.length = 3) (Z : List AV) (hz : Z.length = 39) : splice Z 0 (oT regs pc done why exit T) = oT regs pc done why exit T := splice_all' (by rw [oT_len hl ht, hz])
theorem oT_put39 (hl : regs.length = 32) (ht : T.length = 3) : splice [.int .u32 0, .int .u32 0, .int .u32 0, .int .u32 0, .int .u32 0, .int .u32 0, .int .u32 0, .int .u32 0, .int .u32 0, .int .u32 0, .int .u32 0, .int .u32 0, .int .u32 0, .int .u32 0, .int .u32 0, .int .u32 0, .int .u32 0, .int .u32 0, .int .u32 0, .int .u32 0, .int .u32 0, .int .u32 0, .int .u32 0, .int .u32 0, .int .u32 0, .int .u32 0, .int .u32 0, .int .u32 0, .int .u32 0, .int .u32 0, .int .u32 0, .int .u32 0, .int .u32 0, .int .i64 0, .int .i64 0, .int .i64 0, .nils, .nils, .nils] 0 (oT regs pc done why exit T) = oT regs pc done why exit T := splice_all' (by rw [oT_len hl ht]; rfl)
end
def rOut (regs : List (BitVec 32)) (pc : BitVec 32) (done why exit : Int) (M : IRam) : List AV := oT regs pc done why exit M.cells
theorem rleave_spec {H : Heap} {vv : AV} {vals regs : List (BitVec 32)} {M : IRam} (b : IBk) (hv : VV H vv vals) (hlen : regs.length = 32) (n : Int) (h1 : 0 ≤ n) (h2 : n < b.exits.length) (hm : (b.ex n.toNat).map.length ≤ 1000) (he : okEx (b.ex n.toNat) vals.length) :
  Spec Tryz.prog G 50 [.agg b.cells, .int .i64 n, .agg (wds regs), vv, ramV M] H
  (Is (.agg (rOut (leaveR (b.ex n.toNat) regs vals) (leaveP (b.ex n.toNat) vals) (b.ex n.toNat).done (b.ex n.toNat).why n M)) H) := by
 obtain ⟨c, pre, cap, sp, rfl, hc⟩ := hv
 have hx : (b.exits.getD n.toNat IEx.zero) = b.ex n.toNat := rfl
 have hwl : (wds regs).length = 32 := by simp [wds, hlen]
 have hpa : partOf (wds regs) 0 (some 32) = some (.agg (wds regs)) := partOf_all hwl
 have rml : M.cells.length = 3 := rfl
 have rma : partOf M.cells 0 (some 3) = some (.agg M.cells) := partOf_all rml
 generalize b.ex n.toNat = e at *
 refine Spec.is C50ok rfl ?_
 simp only [push_cast, simprocAttr, hwl, rml]
 intro c10 hc10
 obtain ⟨H4, hH4⟩ : ∃ H4, upd H c10 ⟨[.int .u32 0, .int .u32 0, .int .u32 0, .int .u32 0, .int .u32 0, .int .u32 0, .int .u32 0, .int .u32 0, .int .u32 0, .int .u32 0, .int .u32 0, .int .u32 0, .int .u32 0, .int .u32 0, .int .u32 0, .int .u32 0, .int .u32 0, .int .u32 0, .int .u32 0, .int .u32 0, .int .u32 0, .int .u32 0, .int .u32 0, .int .u32 0, .int .u32 0, .int .u32 0, .int .u32 0, .int .u32 0, .int .u32 0, .int .u32 0, .int .u32 0, .int .u32 0, .int .u32 0, .int .i64 0, .int .i64 0, .int .i64 0, .nils, .nils, .nils], 0⟩ = H4 := ⟨_, rfl⟩
 have z4 : ∃ Z : List AV, Z.length = 39 ∧ H4 c10 = some ⟨Z, 0⟩ := ⟨_, rfl, by rw [← hH4, upd_same]⟩
 have n10 : c10 ≠ c := fun e => by rw [e, hc] at hc10; cases hc10
 have s4 : Sub H H4 := hH4 ▸ (Sub.refl H).alloc hc10
 have c4 : H4 c = some ⟨pre ++ wds vals, sp⟩ := s4 c _ hc
 rw [hH4]
 clear hH4
 obtain ⟨Z, hZ, z4⟩ := z4
 refine ⟨⟨h1, h2⟩, by omega, fun c11 hc11 => ?_⟩
 rw [hx, era_none hc11]
 have nl3 : [AV.nils, AV.nils, AV.nils].length = 3 := rfl
 simp only [push_cast, simprocAttr, hwl, rml, hpa, rma, oT_z hlen, oT_len hlen nl3, oT_32 hlen, oT_33 hlen, oT_34 hlen, oT_35 hlen, oT_36 hlen nl3, oT_len hlen rml, oT_put39 hlen rml]
 intro c12 hc12
 have n12 : c12 ≠ c := fun e => by rw [e, c4] at hc12; cases hc12
 have n1210 : c12 ≠ c10 := fun e => by rw [e, z4] at hc12; cases hc12
 have hmap : ∀ i, i < e.map.length → (0 ≤ (e.map.getD i IVl.zero).val ∧ (e.map.getD i IVl.zero).val < vals.length) ∧ 0 ≤ (e.map.getD i IVl.zero).reg ∧ (e.map.getD i IVl.zero).reg ≤ 31 := he.1
 have hsub : ∀ X Y, Sub H (upd (upd H4 c12 X) c10 Y) := fun X Y => (s4.alloc hc12).set hc10
 refine lpc.rel [3, 10, 11, 12, 13] (fun m ρ h' => ∃ k : Nat, m = e.map.length - k ∧ k ≤ e.map.length ∧ upd H4 c12 ⟨oT (foldR vals (e.map.take k) regs) e.pc e.done e.why n M.cells, 0⟩ = h' ∧
  ρ = [(3, .sl c (List.length pre) vals.length cap), (10, .ptr c10 0), (11, .cp e.cells 0), (12, .ptr c12 0), (13, .int .i64 (k : Int))]) ⟨_, 0, rfl, by omega, rfl, rfl⟩ ?_
 rintro m _ _ ⟨k, rfl, hk, rfl, rfl⟩
 have hlen2 : (foldR vals (e.map.take k) regs).length = 32 := by rw [foldR_len, hlen]
 obtain ⟨R, hR⟩ : ∃ R, foldR vals (e.map.take k) regs = R := ⟨_, rfl⟩
 rw [hR] at hlen2 ⊢
 have g1 : ∀ X, upd H4 c12 X c = some ⟨pre ++ wds vals, sp⟩ := fun X => by rw [upd_ne (Ne.symm n12), c4]
 have g2 : ∀ X, upd H4 c12 X c10 = some ⟨Z, 0⟩ := fun X => by rw [upd_ne (Ne.symm n1210), z4]
 have g3 : ∀ X, upd H4 c12 X c12 = some X := fun X => upd_same _ _ _
 have g4 : ∀ X Y, upd (upd H4 c12 X) c12 Y = upd H4 c12 Y := fun X Y => upd_upd _ _ _ _
 simp only [push_cast, simprocAttr]
 refine ⟨fun hk2 => ?_, fun hk2 => ?_⟩
 ·obtain ⟨⟨v1, v2⟩, w1, w2⟩ := hmap k hk2
  have e2 := row_get pre vals (e.map.getD k IVl.zero).val.toNat (by omega)
  have hT := foldR_take vals e.map regs k hk2
  rw [hR] at hT
  generalize e.map.getD k IVl.zero = v at *
  have os := oT_set (pc := e.pc) (done := e.done) (why := e.why) (exit := n) (T := M.cells) hlen2 v.reg.toNat (by omega) (vals.getD v.val.toNat 0#32)
  have ol := oT_len (pc := e.pc) (done := e.done) (why := e.why) (exit := n) (T := M.cells) hlen2 rml
  simp (disch := omega) only [push_cast, simprocAttr, wrap_i64, toNat_ofInt64, Nat.min_eq_left, Int.toNat_of_nonneg, g1, g2, g3, g4, e2, os, ol]
  refine ⟨hk2, hk2, hk2, hk2, ⟨v1, v2⟩, ⟨w1, by omega⟩, by omega, ?_⟩
  exact ⟨_, _, by omega, .refl _, k + 1, rfl, by omega, by rw [hT]; rfl, rfl⟩
 ·obtain rfl : k = e.map.length := by omega
  rw [List.take_of_length_le (Nat.le_refl _)] at hR
  have hLR : leaveR e regs vals = R := hR
  rw [hLR]
  by_cases ht : e.to = -1
  ·have hLP : leaveP e vals = e.pc := by rw [leaveP, if_pos ht]
   rw [hLP]
   simp only [push_cast, simprocAttr, ht, g1, g2, g3, g4, oT_all hlen2 rml, oT_len hlen2 rml, hZ, oT_put hlen2 rml Z hZ]
   exact ⟨rfl, hsub _ _⟩
  ·have hLP : leaveP e vals = lv vals e.to := by rw [leaveP, if_neg ht]
   rw [hLP]
   have ht' : (e.to = -1) = False := by simp [ht]
   obtain ⟨t1, t2⟩ := he.2.resolve_left ht
   have e2 := row_get pre vals e.to.toNat (by omega)
   have op := oT_32 (pc := e.pc) (done := e.done) (why := e.why) (exit := n) (T := M.cells) hlen2 (vals.getD e.to.toNat 0#32)
   simp only [push_cast, simprocAttr, ht', g1, g2, g3, g4, e2, op, oT_all hlen2 rml, oT_len hlen2 rml, hZ, oT_put hlen2 rml Z hZ]
   exact ⟨⟨t1, t2⟩, rfl, hsub _ _⟩
end Go.Ab
end
