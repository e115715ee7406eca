/- The statement ForwardDoesSaid, from the contract of its function. -/
import Derived.Test.YtfgooaploagiaaaGreatPG6
import Derived.ProofKit
import Derived.OpenShut
import Derived.ShutString
import Derived.ChangeOld
import Derived.Below
import Derived.Test.YtfgooaploagiaaaGreatRows
import Derived.WalkKit
set_option linter.unusedSimpArgs false
set_option linter.unusedVariables false
set_option maxRecDepth 10000
section
namespace Go.Ab
open Go.Proofs
variable {G : Glo} {h : Heap}
def mapR (b : IBk) (to : List Int) (m : List IVl) : List IVl := (m.filter fun v => !ownV b v).map (renV to)
theorem mapR_succ (b : IBk) (to : List Int) (m : List IVl) (j : Nat) (hj : j < m.length) : mapR b to (m.take (j + 1)) = if ownV b (m.getD j IVl.zero) then mapR b to (m.take j) else mapR b to (m.take j) ++ [renV to (m.getD j IVl.zero)] := by
 unfold mapR
 rw [List.take_add_one, List.filter_append, List.map_append]
 have : m[j]?.toList = [m.getD j IVl.zero] := by simp [hj]
 rw [this]
 generalize m.getD j IVl.zero = x
 cases h : ownV b x <;> simp [h]
theorem mapR_len (b : IBk) (to : List Int) (m : List IVl) : (mapR b to m).length ≤ m.length := by
 unfold mapR; rw [List.length_map]; exact List.length_filter_le _ _
theorem rdx_body {g h2 : Heap} {b6 b11 k n : Nat} {u2 : AV} (b : IBk) {kp : Nat → Bool} {kpl : List Bool} {u4 v P O L : AV} {cells : List AV} {e : IEx} {Q : Exit → Env → Heap → Prop} (hs1 : b.ops.length ≤ 1000000000000) (hk1 : kpl.length = b.ops.length) (hk2 : ∀ i, i < kpl.length → kpl.getD i false = kp i)
  (hown : Own 5 (Ab.upd g b6 ⟨[P, O, v, L], 0⟩) v cells n h2) (hb11 : h2 b11 = none) (hn : n + 1 ≤ 1000000000000) (hok : exOK (List.replicate b.ops.length 0) e) (hml : e.map.length ≤ 1000000000000)
  (hq : ∀ ρ v' H' h6, lk ρ 1 = .cp b.cells 0 → lk ρ 2 = u2 → lk ρ 3 = .ro (bos kpl) kpl.length → lk ρ 4 = u4 → lk ρ 6 = .ptr b6 0 → lk ρ 9 = .int .i64 (k : Int) → Sub h6 H' → Own 5 (Ab.upd g b6 ⟨[P, O, v', L], 0⟩) v' (cells ++ (trE b (upk kp b.ops.length) e).cells) (n + 1) h6 → Q .normal ρ H') :
  wpc Tryz.prog G Tryz.f43.ntmps C43_84 Q [(1, .cp b.cells 0), (2, u2), (3, .ro (bos kpl) kpl.length), (4, u4), (6, .ptr b6 0), (9, .int .i64 (k : Int)), (10, .cp e.cells 0), (11, .ptr b11 0)] (Ab.upd h2 b11 ⟨[.int .i64 e.done, .int .u32 (e.pc.toNat : Int), .int .i64 (trE b (upk kp b.ops.length) e).to, .int .i64 e.why, .nils], 0⟩) := by
 have hpa : partOf b.cells 0 (some 4) = some (.agg b.cells) := partOf_all rfl
 have kP := fun (x : Int) h0 h1 (h : Heap) => rplace_spec (G := G) (h := h) kp kpl hk2 (by omega) x h0 h1
 simp only [push_cast, simprocAttr]
 generalize hT : (trE b (upk kp b.ops.length) e).to = T
 refine lpc.rel [1, 2, 3, 4, 6, 9, 10, 11, 12] (fun m ρ h' => ∃ (j : Nat) (v7 : AV), m = e.map.length - j ∧ j ≤ e.map.length ∧ Own 2 (Ab.upd h2 b11 ⟨[.int .i64 e.done, .int .u32 (e.pc.toNat : Int), .int .i64 T, .int .i64 e.why, v7], 0⟩) v7 ((mapR b (upk kp b.ops.length) (e.map.take j)).flatMap IVl.cells) (mapR b (upk kp b.ops.length) (e.map.take j)).length h' ∧
  ρ = [(1, .cp b.cells 0), (2, u2), (3, .ro (bos kpl) kpl.length), (4, u4), (6, .ptr b6 0), (9, .int .i64 (k : Int)), (10, .cp e.cells 0), (11, .ptr b11 0), (12, .int .i64 (j : Int))]) ⟨_, 0, .nils, rfl, by omega, .nil, rfl⟩ ?_
 rintro m _ g2 ⟨j, v7, rfl, hj, ho7, rfl⟩
 have hg7 := ho7.get (upd_same _ _ _)
 by_cases hj2 : j < e.map.length
 ·obtain ⟨q1, q2⟩ := exOK_get hok hj2
  rw [List.length_replicate] at q2
  have hsn := mapR_succ b (upk kp b.ops.length) e.map j hj2
  have hlj := mapR_len b (upk kp b.ops.length) (e.map.take j)
  rw [List.length_take] at hlj
  have kO := fun h : Heap => rown_spec (G := G) (h := h) b (e.map.getD j IVl.zero) q1 q2
  have e0 := vls_0 e.map j
  have e1 := vls_1 e.map j
  rw [if_pos hj2] at e0 e1
  have hr : renV (upk kp b.ops.length) (e.map.getD j IVl.zero) = ⟨(e.map.getD j IVl.zero).reg, (plN kp (e.map.getD j IVl.zero).val.toNat : Int)⟩ := by
   unfold renV; rw [upk_get (by omega)]
  simp only [push_cast, simprocAttr, hg7, hj2, hpa]
  refine (kO _).to ?_
  cases ho : ownV b (e.map.getD j IVl.zero) with
  | true =>
   rw [ho, if_pos rfl] at hsn
   simp (disch := omega) only [push_cast, simprocAttr, wrap_i64, toNat_ofInt64, Nat.min_eq_left, Int.toNat_of_nonneg]
   exact ⟨_, _, by omega, .refl _, j + 1, v7, rfl, by omega, by rw [hsn]; exact ho7, rfl⟩
  | false =>
   rw [ho, if_neg (by simp), hr] at hsn
   simp only [push_cast, simprocAttr, hg7, hj2, e0, e1]
   refine (kP _ q1 (by omega) _).to ?_
   simp only [push_cast, simprocAttr, hg7, hj2, e0, e1]
   refine Own.app ho7 (m := 1) rfl (by omega) (by omega) fun v8 h8 ho8 => ?_
   have hg8 := ho8.get (upd_same _ _ _)
   have ho9 := Own.upd ho8 (b := b11) (x := ⟨[.int .i64 e.done, .int .u32 (e.pc.toNat : Int), .int .i64 T, .int .i64 e.why, v8], 0⟩) (.inr ⟨_, upd_same _ _ _⟩)
   rw [upd_upd] at ho9
   simp (disch := omega) only [push_cast, simprocAttr, wrap_i64, toNat_ofInt64, Nat.min_eq_left, Int.toNat_of_nonneg, hg8, ho8.one]
   exact ⟨_, _, by omega, .refl _, j + 1, v8, rfl, by omega, by rw [hsn, List.flatMap_append, List.length_append]; exact ho9, rfl⟩
 ·obtain rfl : j = e.map.length := by omega
  rw [List.take_of_length_le (Nat.le_refl _)] at ho7
  have hb6 := hown.get (upd_same _ _ _)
  have n1 : ¬ b6 = b11 := fun e => by rw [← e, hb6] at hb11; cases hb11
  have n2 : ¬ b11 = b6 := fun e => n1 e.symm
  simp only [push_cast, simprocAttr, hg7, hj2]
  refine wkQ.cell ho7 (cs' := (trE b (upk kp b.ops.length) e).cells) rfl (fun i => ?_) ?_
  ·match i with
   | 0 => exact .inl rfl
   | 1 => exact .inl rfl
   | 2 => exact .inl (by rw [← hT]; rfl)
   | 3 => exact .inl rfl
   | 4 => exact .inr ⟨rfl, rfl⟩
   | i + 5 => exact .inl rfl
  clear hg7 ho7 hj2 v7 g2
  subst hT
  have ho' := Own.upd hown (b := b11) (x := ⟨(trE b (upk kp b.ops.length) e).cells, 0⟩) (.inl hb11)
  generalize trE b (upk kp b.ops.length) e = e' at *
  have hb6' := ho'.get (b := b6) (by rw [upd_ne n1]; exact upd_same _ _ _)
  simp only [push_cast, simprocAttr, hb6', upd_at, n1, n2, hb6]
  refine Own.app ho' (m := 1) (IEx.len _) (by omega) (by omega) fun v4 h4 ho4 => ?_
  have hg6 := ho4.get (b := b6) (by rw [upd_ne n1]; exact upd_same _ _ _)
  simp only [push_cast, simprocAttr, hg6, ho4.one]
  have ho5 := Own.upd ho4 (b := b6) (x := ⟨[P, O, v4, L], 0⟩) (.inr ⟨_, by rw [upd_ne n1]; exact upd_same _ _ _⟩)
  rw [upd_comm n2, upd_upd] at ho5
  obtain ⟨h6, hs6, ho6⟩ := Own.drop ho5 (by
   have := hown.sub.none hb11
   rw [upd_ne n2] at this
   rw [upd_ne n2]; exact this)
  exact hq _ v4 _ h6 rfl rfl rfl rfl rfl rfl hs6 ho6
theorem keD_succ (nm : Nat → Bool) (es : List IEx) (f : IEx → IEx) (k : Nat) : ((kepK nm es (k + 1)).map f).flatMap IEx.cells = if nm k then ((kepK nm es k).map f).flatMap IEx.cells ++ (f (es.getD k IEx.zero)).cells else ((kepK nm es k).map f).flatMap IEx.cells := by
 rw [kepK_succ]
 cases nm k <;> simp
theorem rdd_exits {g : Heap} {b6 b2 : Nat} (b : IBk) {kp nm : Nat → Bool} {kpl nml : List Bool} {P O L : AV} {Q : Exit → Env → Heap → Prop} (hw : b.wf) (hc : b.check = 0) (hk1 : kpl.length = b.ops.length) (hk2 : ∀ i, i < kpl.length → kpl.getD i false = kp i) (hn1 : nml.length = b.exits.length) (hn2 : ∀ i, i < nml.length → nml.getD i false = nm i) (hg : g b6 = none)
  (hq : ∀ ρ v H', lk ρ 2 = .ptr b2 0 → lk ρ 6 = .ptr b6 0 → Own 5 (Ab.upd g b6 ⟨[P, O, v, L], 0⟩) v (((kepK nm b.exits b.exits.length).map (trE b (upk kp b.ops.length))).flatMap IEx.cells) (plN nm b.exits.length) H' → Q .normal ρ H') :
  wpc Tryz.prog G Tryz.f43.ntmps C43_96 Q [(6, .ptr b6 0), (1, .cp b.cells 0), (2, .ptr b2 0), (3, .ro (bos kpl) kpl.length), (4, .ro (bos nml) nml.length), (6, .ptr b6 0)] (Ab.upd g b6 ⟨[P, O, .nils, L], 0⟩) := by
 obtain ⟨hops, hexs⟩ := right_parts hc
 obtain ⟨hs1, hs2, hs3⟩ := hw.hs
 have kP := fun (x : Int) h0 h1 (h : Heap) => rplace_spec (G := G) (h := h) kp kpl hk2 (by omega) x h0 h1
 simp only [push_cast, simprocAttr]
 refine lpc.rel [1, 2, 3, 4, 6, 9] (fun m ρ h' => ∃ (k : Nat) (v : AV), m = b.exits.length - k ∧ k ≤ b.exits.length ∧ Own 5 (Ab.upd g b6 ⟨[P, O, v, L], 0⟩) v (((kepK nm b.exits k).map (trE b (upk kp b.ops.length))).flatMap IEx.cells) (plN nm k) h' ∧
  ρ = [(1, .cp b.cells 0), (2, .ptr b2 0), (3, .ro (bos kpl) kpl.length), (4, .ro (bos nml) nml.length), (6, .ptr b6 0), (9, .int .i64 (k : Int))]) ⟨_, 0, .nils, rfl, by omega, .nil, rfl⟩ ?_
 rintro m _ h2 ⟨k, v, rfl, hk, hown, rfl⟩
 by_cases hk3 : k < b.exits.length
 ·have hok := exOK_of (hexs k hk3) (to := List.replicate b.ops.length 0) (by simp)
  have hml := getD_map (n := k) hs3
  have hsn := keD_succ nm b.exits (trE b (upk kp b.ops.length)) k
  have hps := plN_succ nm k
  have hple := plN_le nm k
  have hkk : k < nml.length := by omega
  have hgk := hn2 k hkk
  have ep := exs_p b.exits k
  rw [if_pos hk3] at ep
  generalize b.exits.getD k IEx.zero = e at *
  have hB := fun b11 hb11 Q hq => rdx_body (Q := Q) (G := G) (b11 := b11) (k := k) (u2 := .ptr b2 0) (u4 := .ro (bos nml) nml.length) b hs1 hk1 hk2 hown hb11 (by omega) hok hml hq
  have ht' : (trE b (upk kp b.ops.length) e).to = if e.to = -1 then -1 else (upk kp b.ops.length).getD e.to.toNat 0 := rfl
  show wpc _ _ _ (.seq [1, 2, 3, 4, 6, 9] C43_57 (.seq [1, 2, 3, 4, 6, 9] (.block 5 (.seq [1, 2, 3, 4, 6, 9, 10] C43_58 (.fz 10 (.seq [1, 2, 3, 4, 6, 9, 10] C43_61 (.seq [1, 2, 3, 4, 6, 9, 10, 11] C43_62 (.seq [1, 2, 3, 4, 6, 9, 10, 11] C43_66 C43_84)))))) C43_91)) _ _ _
  generalize C43_84 = Y at hB ⊢
  simp only [push_cast, simprocAttr, hk3, ep]
  intro b10 hb10
  rw [era_none hb10]
  cases hnk : nm k with
  | false =>
   rw [hnk] at hsn hps hgk
   simp (disch := omega) only [push_cast, simprocAttr, wrap_i64, toNat_ofInt64, Nat.min_eq_left, Int.toNat_of_nonneg, hkk, hgk]
   exact ⟨_, _, by omega, .refl _, k + 1, v, rfl, by omega, by rw [hsn, hps]; exact hown, rfl⟩
  | true =>
   rw [hnk] at hsn hps hgk
   rw [if_pos rfl] at hsn hps
   by_cases ht : e.to = -1
   ·rw [if_pos ht] at ht'
    rw [ht'] at hB
    simp only [push_cast, simprocAttr, hkk, hgk]
    intro b11 hb11
    simp only [push_cast, simprocAttr, ht]
    refine hB b11 hb11 _ fun ρ v' H' h6 l1 l2 l3 l4 l6 l9 hs6 ho6 => ?_
    simp (disch := omega) only [push_cast, simprocAttr, wrap_i64, toNat_ofInt64, Nat.min_eq_left, Int.toNat_of_nonneg, l1, l2, l3, l4, l6, l9]
    exact ⟨_, h6, by omega, hs6, k + 1, v', rfl, by omega, by rw [hsn, hps]; exact ho6, rfl⟩
   ·rw [if_neg ht] at ht'
    obtain ⟨q1, q2⟩ := hok.1.resolve_left ht
    rw [List.length_replicate] at q2
    rw [ht', upk_get (by omega)] at hB
    simp only [push_cast, simprocAttr, hkk, hgk]
    intro b11 hb11
    simp only [push_cast, simprocAttr, ht]
    refine (kP _ q1 (by omega) _).to ?_
    simp only [push_cast, simprocAttr, ht]
    refine hB b11 hb11 _ fun ρ v' H' h6 l1 l2 l3 l4 l6 l9 hs6 ho6 => ?_
    simp (disch := omega) only [push_cast, simprocAttr, wrap_i64, toNat_ofInt64, Nat.min_eq_left, Int.toNat_of_nonneg, l1, l2, l3, l4, l6, l9]
    exact ⟨_, h6, by omega, hs6, k + 1, v', rfl, by omega, by rw [hsn, hps]; exact ho6, rfl⟩
 ·obtain rfl : k = b.exits.length := by omega
  simp only [push_cast, simprocAttr, hk3]
  exact hq _ v _ rfl rfl hown
end Go.Ab
end
section
namespace Go.Ab
open Go.Proofs
variable {G : Glo} {h : Heap}
theorem mapB_get (f : Nat → Bool) (n i : Nat) (hi : i < ((List.range n).map f).length) : ((List.range n).map f).getD i false = f i := by
 simp only [List.length_map, List.length_range] at hi
 simp [hi]
theorem rdeadDo_spec (b : IBk) (hw : b.wf) (hc : b.check = 0) : Spec Tryz.prog G 43 [.agg b.cells] h (Is (.agg (b.dd (askN b)).cells) h) := by
 obtain ⟨hops, hexs⟩ := right_parts hc
 obtain ⟨hs1, hs2, hs3⟩ := hw.hs
 have hlast : 0 ≤ b.last ∧ b.last < b.exits.length := by
  have := chk_right hc
  simp only [IBk.right, Bool.and_eq_true] at this
  exact (exit_parts this.2).1
 obtain ⟨l0, l1⟩ := hlast
 have hnk : namedX (keptO (askN b) b b.ops.length) b.last = namedX b.ops b.last := funext (named_kept (askN_ok b hc))
 have hdd : b.dd (askN b) = ⟨b.pcs, (keptO (askN b) b b.ops.length).map (reX (plN (namedX b.ops b.last))), (kepK (namedX b.ops b.last) b.exits b.exits.length).map (trE b (upk (askN b) b.ops.length)), (plN (namedX b.ops b.last) b.last.toNat : Int)⟩ := by
  unfold IBk.dd prB
  rw [hnk]
  rfl
 rw [hdd]
 clear hdd hnk
 have kA := fun h : Heap => rAsked30_spec (G := G) (h := h) b hw hc
 have kN := fun (n : Nat) (h : Heap) => rNamed_spec (G := G) (h := h) b n hs1
 have hpa : partOf b.cells 0 (some 4) = some (.agg b.cells) := partOf_all rfl
 have hkl : ((List.range b.ops.length).map (askN b)).length = b.ops.length := by simp
 have hkg := mapB_get (askN b) b.ops.length
 have hnl : ((List.range b.exits.length).map (namedX b.ops b.last)).length = b.exits.length := by simp
 have hng := mapB_get (namedX b.ops b.last) b.exits.length
 have hone : ∀ k, bos ((List.range (k + 1)).map (namedX b.ops b.last)) = bos ((List.range k).map (namedX b.ops b.last)) ++ [.bool (namedX b.ops b.last k)] := fun k => by simp [bos, List.range_succ]
 have kP := fun h : Heap => rplace_spec (G := G) (h := h) (namedX b.ops b.last) _ hng (by omega) b.last l0 (by omega)
 rw [hnl] at kP
 have hO := fun (b6 : Nat) (g : Heap) b2 P L Q hg hq => rdd_ops (G := G) (g := g) (b6 := b6) (b2 := b2) b (kp := askN b) (nm := namedX b.ops b.last) (P := P) (L := L) (Q := Q) hw hc hkl hkg hnl hng hg hq
 have hE := fun (b6 : Nat) (g : Heap) b2 P O L Q hg hq => rdd_exits (G := G) (g := g) (b6 := b6) (b2 := b2) b (kp := askN b) (nm := namedX b.ops b.last) (P := P) (O := O) (L := L) (Q := Q) hw hc hkl hkg hnl hng hg hq
 rw [hkl, hnl] at hO hE
 generalize namedX b.ops b.last = nm at *
 have hkt := keptO_len (askN b) b b.ops.length
 generalize keptO (askN b) b b.ops.length = kO at *
 generalize (List.range b.ops.length).map (askN b) = kpl at *
 refine Spec.is C43ok rfl ?_
 simp only [push_cast, simprocAttr, hpa]
 intro b2 hb2
 refine (kA _).to ?_
 simp only [push_cast, simprocAttr]
 intro b15 hb15
 have i1 : Own 1 (Ab.upd h b2 ⟨[.nils, .nils, .nils, .int .i64 0], 0⟩) (.sl b15 0 0 0) [] 0 _ := own_new hb15
 refine lpc.rel [1, 2, 3, 4, 5] (fun m ρ h' => ∃ (k : Nat) (v : AV), m = b.exits.length - k ∧ k ≤ b.exits.length ∧ Own 1 (Ab.upd h b2 ⟨[.nils, .nils, .nils, .int .i64 0], 0⟩) v (bos ((List.range k).map nm)) k h' ∧
  ρ = [(1, .cp b.cells 0), (2, .ptr b2 0), (3, .ro (bos kpl) b.ops.length), (4, v), (5, .int .i64 (k : Int))]) ⟨_, 0, _, rfl, by omega, i1, rfl⟩ ?_
 rintro m _ h2 ⟨k, v, rfl, hk, hown, rfl⟩
 by_cases hk2 : k < b.exits.length
 ·simp only [push_cast, simprocAttr, hk2, hpa]
  refine (kN k _).to ?_
  simp only [push_cast, simprocAttr]
  refine Own.app hown (m := 1) rfl (by omega) (by omega) fun v4 h4 ho4 => ?_
  simp (disch := omega) only [push_cast, simprocAttr, wrap_i64, toNat_ofInt64, Nat.min_eq_left, Int.toNat_of_nonneg, ho4.one]
  exact ⟨_, _, by omega, .refl _, k + 1, v4, rfl, by omega, by rw [hone]; exact ho4, rfl⟩
 ·obtain rfl : k = b.exits.length := by omega
  generalize (List.range b.exits.length).map nm = nml at *
  have hn2 : ∀ b6, Ab.upd h b2 ⟨[.nils, .nils, .nils, .int .i64 0], 0⟩ b6 = none → ¬ b2 = b6 := fun b6 hb6 => Ne.symm (upd_none hb6).1
  simp only [push_cast, simprocAttr, hk2]
  refine wkQ.own hown ?_
  show wpc _ _ _ (.seq [1, 2, 3, 4, 6] C43_15 (.seq [1, 2, 3, 4, 6] C43_53 (.wk 6 (.seq [2, 6] C43_96 C43_99)))) _ _ _
  have fin : ∀ b6, Ab.upd h b2 ⟨[.nils, .nils, .nils, .int .i64 0], 0⟩ b6 = none → wpc Tryz.prog G Tryz.f43.ntmps (.seq [1, 2, 3, 4, 6] C43_53 (.wk 6 (.seq [2, 6] C43_96 C43_99))) (retQ C43r (IsS (.agg (IBk.cells ⟨b.pcs, kO.map (reX (plN nm)), (kepK nm b.exits b.exits.length).map (trE b (upk (askN b) b.ops.length)), (plN nm b.last.toNat : Int)⟩)) h))
    [(1, .cp b.cells 0), (2, .ptr b2 0), (3, .ro (bos kpl) b.ops.length), (4, .ro (bos nml) b.exits.length), (6, .ptr b6 0)] (Ab.upd (Ab.upd h b2 ⟨[.nils, .nils, .nils, .int .i64 0], 0⟩) b6 ⟨[.ro (wds b.pcs) b.pcs.length, .nils, .nils, .int .i64 (plN nm b.last.toNat : Int)], 0⟩) := by
   intro b6 hb6
   have hO := fun P L Q hq => hO b6 _ b2 P L Q hb6 hq
   have hE := fun P O L Q hq => hE b6 _ b2 P O L Q hb6 hq
   have n1 := hn2 b6 hb6
   generalize C43_53 = Y at hO ⊢
   generalize C43_96 = Z at hE ⊢
   simp only [push_cast, simprocAttr]
   refine hO _ _ _ fun ρ v H' l1 l2 l3 l4 l6 ho => ?_
   rw [← hkt] at ho
   have hml : (kO.map (reX (plN nm))).length = kO.length := by simp
   rw [← hml] at ho
   simp only [push_cast, simprocAttr, l1, l2, l3, l4, l6]
   refine wkQ.cell ho (cs' := [.ro (wds b.pcs) b.pcs.length, ops (kO.map (reX (plN nm))), .nils, .int .i64 (plN nm b.last.toNat : Int)]) rfl (fun i => ?_) ?_
   ·match i with
    | 0 => exact .inl rfl
    | 1 => exact .inr ⟨rfl, rfl⟩
    | 2 => exact .inl rfl
    | 3 => exact .inl rfl
    | i + 4 => exact .inl rfl
   simp only [push_cast, simprocAttr]
   refine hE _ _ _ _ fun ρ v H' l2 l6 ho => ?_
   have hke := kepK_len nm b.exits b.exits.length
   rw [← hke] at ho
   have hml : ((kepK nm b.exits b.exits.length).map (trE b (upk (askN b) b.ops.length))).length = (kepK nm b.exits b.exits.length).length := by simp
   rw [← hml] at ho
   simp only [push_cast, simprocAttr, l2, l6]
   refine wkQ.cell ho (cs' := IBk.cells ⟨b.pcs, kO.map (reX (plN nm)), (kepK nm b.exits b.exits.length).map (trE b (upk (askN b) b.ops.length)), (plN nm b.last.toNat : Int)⟩) rfl (fun i => ?_) ?_
   ·match i with
    | 0 => exact .inl rfl
    | 1 => exact .inl rfl
    | 2 => exact .inr ⟨rfl, rfl⟩
    | 3 => exact .inl rfl
    | i + 4 => exact .inl rfl
   simp only [push_cast, simprocAttr, upd_at, n1, Ne.symm n1]
   (repeat first | refine sub_upd hb2 ?_ | refine sub_upd (upd_none hb6).2 ?_)
   exact .refl _
  generalize hY : (ACode.seq [1, 2, 3, 4, 6] C43_53 (.wk 6 (.seq [2, 6] C43_96 C43_99))) = Y at fin ⊢
  simp only [push_cast, simprocAttr]
  refine ⟨(kP _).to ?_, fun b6 hb6 => (kP _).to ?_⟩
  ·simp only [push_cast, simprocAttr]
   intro b6 hb6
   exact fin b6 hb6
  ·simp only [push_cast, simprocAttr]
   exact fin b6 hb6
end Go.Ab
end
section
namespace Go.Ab
open Go.Proofs
variable {G : Glo} {h : Heap}
theorem Spec.pre {P : Program} {f : FuncId} {a a' : AV} {h h1 : Heap} {Q : AV → Heap → Prop} (hl : Le a h a' h1) (hs : Spec P G f [a'] h1 Q) : Spec P G f [a] h Q := by
 intro w vs k1 k2 k3
 match vs, k3 with
 | [v], k3 =>
  obtain ⟨x, y, z⟩ := hl w v k1 (k3.2 0 a v rfl rfl)
  have hk : Keeps w h.dom w h1.dom := ⟨Nat.le_refl _, fun b _ hn => ⟨fun hd => hd (z b (Classical.not_not.1 hn)), rfl⟩, fun _ h => h⟩
  refine (hs w [v] x (k2.keep hk) (.cons y .nil)).mono ?_
  rintro e w' ⟨v', r, h', he, q, m1, m2, m3⟩
  exact ⟨v', r, h', he, q, m1, m2, ⟨m3.size, fun b hb hn => m3.blk b hb (z b hn), m3.cel, m3.os, m3.tape, m3.out⟩⟩
 | [], k3 => have := k3.1; simp at this
 | _ :: _ :: _, k3 => have := k3.1; simp at this
def VLe (a a' : AV) : Prop := ∀ (w : World) (O : Nat → Prop) (v : Value), Rep w O a v → Rep w O a' v
theorem VLe.refl (a : AV) : VLe a a := fun _ _ _ h => h
theorem VLe.nils : VLe .nils (.ro [] 0) := fun _ _ _ h => by rw [rep_nils h]; exact .roe none 0
inductive VLs : List AV → List AV → Prop
 | nil : VLs [] []
 | cons {a a' : AV} {l l' : List AV} (h : VLe a a') (hl : VLs l l') : VLs (a :: l) (a' :: l')
theorem VLs.refl (l : List AV) : VLs l l := by
 induction l with
 | nil => exact .nil
 | cons a l ih => exact .cons (VLe.refl a) ih
theorem VLs.get {l l' : List AV} (h : VLs l l') : ∀ (i : Nat) (v' : AV), l'[i]? = some v' → ∃ v, l[i]? = some v ∧ VLe v v' := by
 induction h with
 | nil => intro i v' h; simp at h
 | cons h _ ih =>
  intro i v' hv
  cases i with
  | zero => simp at hv; subst hv; exact ⟨_, rfl, h⟩
  | succ i => exact ih i v' (by simpa using hv)
theorem VLe.ro {l l' : List AV} {n : Nat} (h : VLs l l') : VLe (.ro l n) (.ro l' n) := by
 intro w O v hr
 cases hr with
 | roe a cap => cases h; exact .roe a cap
 | ro _ _ cap b o cs hlc hb hO hc hr =>
  refine .ro l' n cap b o cs hlc hb hO (fun i v' hv => ?_) (fun i v' hv => ?_)
  ·obtain ⟨v, e, _⟩ := h.get i v' hv; exact hc i v e
  ·obtain ⟨v, e, k⟩ := h.get i v' hv; exact k _ _ _ (hr i v e)
theorem VLe.cp {l l' : List AV} {n : Nat} (h : VLs l l') : VLe (.cp l n) (.cp l' n) := by
 intro w O v hr
 cases hr with
 | cp _ _ b o cs hb hO hc hr =>
  refine .cp l' n b o cs hb hO (fun i v' hv => ?_) (fun i v' hv => ?_)
  ·obtain ⟨v, e, _⟩ := h.get i v' hv; exact hc i v e
  ·obtain ⟨v, e, k⟩ := h.get i v' hv; exact k _ _ _ (hr i v e)
theorem le_v {a a' : AV} {h : Heap} (hv : VLe a a') : Le a h a' h := fun w v hw hr => ⟨hw, hv w _ v hr, fun _ e => e⟩
def W42 : IBk := ⟨[0], [⟨1, 0, 0, 1, 0, 0⟩, ⟨1, 0, 0, 2, 0, 0⟩, ⟨5, 0, 1, 18, 0, 0⟩, ⟨4, 0, 0, 13, 0, 0⟩], [⟨0, 0, -1, 1, []⟩, ⟨1, 0, -1, 4, [⟨3, 3⟩]⟩], 1⟩
theorem W42_check : W42.check = 0 := by decide
theorem W42_fw : W42.fw = ⟨[0], [⟨1, 0, 0, 1, 0, 0⟩, ⟨1, 0, 0, 2, 0, 0⟩, ⟨5, 0, 1, 18, 0, 0⟩], [⟨0, 0, -1, 1, []⟩, ⟨1, 0, -1, 4, [⟨3, 1⟩]⟩], 1⟩ := by decide
theorem W42_wf : W42.wf := by
 refine ⟨by decide, by decide, by decide, ?_, by decide, by decide, by decide, ?_⟩ <;> decide
theorem awake42_spec : Spec Tryz.prog G 24 [] h (Is (.bool true) h) := by
 refine Spec.is C24ok rfl ?_
 simp only [push_cast, simprocAttr]
 intro b hb
 refine Spec.pre (a' := bkP W42) (h1 := h) (le_trans (Le.box hb) (le_v (VLe.cp ?_))) ?_
 ·exact .cons (VLe.refl _) (.cons (VLe.refl _) (.cons (VLe.ro (.cons (VLe.refl _) (.cons (VLe.refl _) (.cons (VLe.refl _) (.cons (VLe.refl _) (.cons VLe.nils (VLs.refl _))))))) (VLs.refl _)))
 ·refine (Do_spec W42 W42_wf W42_check).to ?_
  rw [W42_fw]
  have e1 : ([⟨0, 0#32, -1, 1, []⟩, ⟨1, 0#32, -1, 4, [⟨3, 1⟩]⟩].flatMap IEx.cells)[9]? = some (vls [⟨3, 1⟩]) := rfl
  have e2 : ([⟨3, 1⟩].flatMap IVl.cells)[1]? = some (.int .i64 1) := rfl
  simp only [push_cast, simprocAttr, e1, e2]
end Go.Ab
end
section
namespace Go.Ab
open Go.Proofs
variable {G : Glo} {h : Heap}
end Go.Ab
end
section
namespace Go.Ab
open Go.Proofs
variable {G : Glo} {h : Heap}
def m15 (mask : Int) : Nat := (BitVec.ofInt 64 mask).toNat % 16
theorem and_pow (x k : Nat) : x &&& 2 ^ k = (x.testBit k).toNat * 2 ^ k := by
 apply Nat.eq_of_testBit_eq
 intro i
 rw [Nat.testBit_and, Nat.testBit_two_pow]
 by_cases e : k = i
 ·subst e
  cases h : x.testBit k <;> simp [h, Nat.testBit_two_pow]
 ·cases h : x.testBit k <;> simp [e, Nat.testBit_two_pow]
theorem bit_of (mask : Int) (k : Nat) (hk : k < 4) : bitM mask ((2 ^ k : Nat) : Int) = decide (m15 mask / 2 ^ k % 2 = 1) := by
 have h : (BitVec.ofInt 64 mask &&& BitVec.ofInt 64 ((2 ^ k : Nat) : Int)).toNat = ((BitVec.ofInt 64 mask).toNat.testBit k).toNat * 2 ^ k := by
  rw [BitVec.toNat_and, ← and_pow]
  congr 1
  match k, hk with
  | 0, _ => rfl
  | 1, _ => rfl
  | 2, _ => rfl
  | 3, _ => rfl
 unfold bitM kAnd
 rw [h, Nat.testBit_eq_decide_div_mod_eq]
 unfold m15
 generalize (BitVec.ofInt 64 mask).toNat = x
 have hx : x % 16 / 2 ^ k % 2 = x / 2 ^ k % 2 := by
  match k, hk with
  | 0, _ => simp only [Nat.pow_zero]; omega
  | 1, _ => simp only [Nat.pow_one]; omega
  | 2, _ => show x % 16 / 4 % 2 = x / 4 % 2; omega
  | 3, _ => show x % 16 / 8 % 2 = x / 8 % 2; omega
 rw [hx]
 by_cases c : x / 2 ^ k % 2 = 1
 ·rw [decide_eq_true c]
  match k, hk with
  | 0, _ => rfl
  | 1, _ => rfl
  | 2, _ => rfl
  | 3, _ => rfl
 ·rw [decide_eq_false c]
  match k, hk with
  | 0, _ => rfl
  | 1, _ => rfl
  | 2, _ => rfl
  | 3, _ => rfl
theorem m15_15 : m15 15 = 15 := by decide
theorem rRound_spec33 (b : IBk) (mask : Int) (hw : b.wf) (hc : b.check = 0) : Spec Tryz.prog G 17 [.agg b.cells, .int .i64 (m15 mask)] h (Is (.agg (roundN mask b).cells) h) := by
 have hm : m15 mask < 4294967296 := by unfold m15; omega
 have kB := fun (k : Nat) (hk : k < 4) (h : Heap) => bit_spec (G := G) (h := h) (m15 mask) k hm (by omega)
 have hb0 : bitM mask 1 = decide (m15 mask / 2 ^ 0 % 2 = 1) := bit_of mask 0 (by omega)
 have hb1 : bitM mask 2 = decide (m15 mask / 2 ^ 1 % 2 = 1) := bit_of mask 1 (by omega)
 have hb2 : bitM mask 4 = decide (m15 mask / 2 ^ 2 % 2 = 1) := bit_of mask 2 (by omega)
 have hb3 : bitM mask 8 = decide (m15 mask / 2 ^ 3 % 2 = 1) := bit_of mask 3 (by omega)
 unfold roundN
 simp only [roundK, hb0, hb1, hb2, hb3]
 clear hb0 hb1 hb2 hb3
 have k0 := kB 0 (by omega)
 have k1 := kB 1 (by omega)
 have k2 := kB 2 (by omega)
 have k3 := kB 3 (by omega)
 clear kB
 generalize decide (m15 mask / 2 ^ 0 % 2 = 1) = x0 at *
 generalize decide (m15 mask / 2 ^ 1 % 2 = 1) = x1 at *
 generalize decide (m15 mask / 2 ^ 2 % 2 = 1) = x2 at *
 generalize decide (m15 mask / 2 ^ 3 % 2 = 1) = x3 at *
 generalize (m15 mask : Int) = M at *
 have key : ∀ (b1 : IBk) (bit : Int), b1.wf ∧ b1.check = 0 → (passN bit b1).wf ∧ (passN bit b1).check = 0 := fun b1 bit h1 => by
  obtain ⟨q1, q2, _⟩ := passN_ok bit h1.2
  exact ⟨q2.wf h1.1, q1⟩
 have g : b.wf ∧ b.check = 0 := ⟨hw, hc⟩
 have p0 : ∀ (b1 : IBk), b1.wf ∧ b1.check = 0 → ∀ h : Heap, Spec Tryz.prog G 40 [.agg b1.cells] h (Is (.agg (passN 1 b1).cells) h) := fun b1 h1 h => rfoldDo_spec b1 h1.1 h1.2
 have p1 : ∀ (b1 : IBk), b1.wf ∧ b1.check = 0 → ∀ h : Heap, Spec Tryz.prog G 41 [.agg b1.cells] h (Is (.agg (passN 2 b1).cells) h) := fun b1 h1 h => rnum_spec b1 h1.1 h1.2
 have p2 : ∀ (b1 : IBk), b1.wf ∧ b1.check = 0 → ∀ h : Heap, Spec Tryz.prog G 42 [.agg b1.cells] h (Is (.agg (passN 4 b1).cells) h) := fun b1 h1 h => rguardDo_spec b1 h1.1 h1.2
 have p3 : ∀ (b1 : IBk), b1.wf ∧ b1.check = 0 → ∀ h : Heap, Spec Tryz.prog G 43 [.agg b1.cells] h (Is (.agg (passN 8 b1).cells) h) := fun b1 h1 h => rdeadDo_spec b1 h1.1 h1.2
 have hsp : ∀ b1 b2 : IBk, splice b1.cells 0 b2.cells = b2.cells := fun _ _ => rfl
 refine Spec.is C17ok rfl ?_
 simp only [push_cast, simprocAttr]
 intro c2 hc2 c4 hc4
 obtain ⟨n1, hc4'⟩ := upd_none hc4
 cases x0 <;> cases x1 <;> cases x2 <;> cases x3 <;>
 ·repeat (first
   | (refine (k0 _).to ?_; simp only [push_cast, simprocAttr, upd_at, n1, Ne.symm n1, hsp])
   | (refine (k1 _).to ?_; simp only [push_cast, simprocAttr, upd_at, n1, Ne.symm n1, hsp])
   | (refine (k2 _).to ?_; simp only [push_cast, simprocAttr, upd_at, n1, Ne.symm n1, hsp])
   | (refine (k3 _).to ?_; simp only [push_cast, simprocAttr, upd_at, n1, Ne.symm n1, hsp])
   | (refine (p0 _ (by repeat' first | exact g | apply key) _).to ?_; simp only [push_cast, simprocAttr, upd_at, n1, Ne.symm n1, hsp])
   | (refine (p1 _ (by repeat' first | exact g | apply key) _).to ?_; simp only [push_cast, simprocAttr, upd_at, n1, Ne.symm n1, hsp])
   | (refine (p2 _ (by repeat' first | exact g | apply key) _).to ?_; simp only [push_cast, simprocAttr, upd_at, n1, Ne.symm n1, hsp])
   | (refine (p3 _ (by repeat' first | exact g | apply key) _).to ?_; simp only [push_cast, simprocAttr, upd_at, n1, Ne.symm n1, hsp]))
  (repeat first | refine sub_upd hc2 ?_ | refine sub_upd hc4' ?_)
  exact .refl _
end Go.Ab
end
section
namespace Go.Ab
open Go.Proofs
variable {G : Glo} {h : Heap}
theorem rRun_spec33 (b : IBk) (mask : Int) (hw : b.wf) (hc : b.check = 0) : Spec Tryz.prog G 18 [.agg b.cells, .int .i64 (m15 mask)] h (Is (.agg (runP mask 8 b).cells) h) := by
 have hsp : ∀ b1 b2 : IBk, splice b1.cells 0 b2.cells = b2.cells := fun _ _ => rfl
 refine Spec.is C18ok rfl ?_
 simp only [push_cast, simprocAttr]
 intro c2 hc2 c4 hc4
 obtain ⟨n1, hc4'⟩ := upd_none hc4
 refine lpc.rel [1, 2, 4, 5] (fun m ρ h' => ∃ (k : Nat) (b1 : IBk), m = 8 - k ∧ k ≤ 8 ∧ Kps b1 b ∧ runP mask 8 b = runP mask (8 - k) b1 ∧ h' = Ab.upd (Ab.upd h c4 ⟨[.nils, .nils, .nils, .int .i64 0], 0⟩) c2 ⟨b1.cells, 0⟩ ∧
  ρ = [(1, .int .i64 (m15 mask)), (2, .ptr c2 0), (4, .ptr c4 0), (5, .int .i64 (k : Int))]) ⟨_, 0, b, rfl, by omega, .refl hc, rfl, ?_, rfl⟩ ?_
 ·rw [upd_comm n1]
 rintro m _ _ ⟨k, b1, rfl, hk, hp, hr, rfl, rfl⟩
 by_cases hk2 : k < 8
 ·have hw1 := hp.nol.wf hw
  have hkp := (round_kps mask hp.check).trans hp
  have hw2 := hkp.nol.wf hw
  have kR := fun h : Heap => rRound_spec33 (G := G) (h := h) b1 mask hw1 hp.check
  have hstep : runP mask (8 - k) b1 = if roundN mask b1 = b1 then roundN mask b1 else runP mask (8 - (k + 1)) (roundN mask b1) := by rw [show 8 - k = (8 - (k + 1)) + 1 by omega, runP]
  rw [hstep] at hr
  clear hstep
  generalize runP mask 8 b = R at *
  generalize roundN mask b1 = b2 at *
  have kS := fun h : Heap => rSame_spec (G := G) (h := h) b2 b1 hw2
  have hk3 : (k : Int) < 8 := by omega
  simp (disch := omega) only [push_cast, simprocAttr, wrap_i64, toNat_ofInt64, Nat.min_eq_left, Int.toNat_of_nonneg, hk2, hk3, upd_at, n1, Ne.symm n1]
  refine (kR _).to ?_
  simp only [push_cast, simprocAttr, upd_at, n1, Ne.symm n1]
  intro c6 hc6
  rw [era_none (by simp only [upd_at]; exact hc6)]
  simp only [push_cast, simprocAttr, upd_at, n1, Ne.symm n1]
  refine (kS _).to ?_
  by_cases he : b2 = b1
  ·rw [if_pos he] at hr
   rw [decide_eq_true he]
   simp only [push_cast, simprocAttr, upd_at, n1, Ne.symm n1]
   exact ⟨by rw [hr, he], sub_upd hc4' (sub_upd hc2 (sub_upd hc4' (.refl _)))⟩
  ·rw [if_neg he] at hr
   rw [decide_eq_false he]
   simp (disch := omega) only [push_cast, simprocAttr, wrap_i64, toNat_ofInt64, Nat.min_eq_left, Int.toNat_of_nonneg, upd_at, n1, Ne.symm n1, hsp]
   exact ⟨_, _, by omega, .refl _, k + 1, b2, rfl, by omega, hkp, hr, rfl, rfl⟩
 ·obtain rfl : k = 8 := by omega
  simp only [push_cast, simprocAttr, upd_at, n1, Ne.symm n1]
  exact ⟨by rw [hr]; rfl, sub_upd hc4' (sub_upd hc2 (sub_upd hc4' (.refl _)))⟩
theorem rTune_spec (b : IBk) (hw : b.wf) (hc : b.check = 0) : Spec Tryz.prog G 28 [.agg b.cells] h (Is (.agg (runP 15 8 (runP 15 8 b).fw).cells) h) := by
 have h1 := run_kps 15 8 hc
 have h2 := (fw_kps h1.check).trans h1
 have k1 := fun h : Heap => rRun_spec33 (G := G) (h := h) b 15 hw hc
 have k2 := fun h : Heap => rfwd_spec (G := G) (h := h) (runP 15 8 b) (h1.nol.wf hw) h1.check
 have k3 := fun h : Heap => rRun_spec33 (G := G) (h := h) (runP 15 8 b).fw 15 (h2.nol.wf hw) h2.check
 rw [m15_15] at k1 k3
 rw [fw_eq] at *
 refine Spec.is C28ok rfl ?_
 simp only [push_cast, simprocAttr]
 intro c2 hc2
 refine (k1 _).to ?_
 simp only [push_cast, simprocAttr]
 refine (k2 _).to ?_
 simp only [push_cast, simprocAttr]
 refine (k3 _).to ?_
 simp only [push_cast, simprocAttr]
 exact sub_upd hc2 (.refl _)
theorem RoundBad_spec (b : IBk) (mask : Int) (hw : b.wf) (hc : b.check ≠ 0) : Spec Tryz.prog G 10 [bkP b, .int .i64 mask] h (Is (.tup [.nilp, .int .i64 b.check]) h) := by
 have hb : (b.check != 0) = true := by simp [hc]
 refine Spec.weak (Q := fun r h' => Sub h h' ∧ r = .tup [.nilp, .int .i64 b.check]) ?_ ?_
 ·refine Spec.walkR C10ok rfl ?_
  simp only [push_cast, simprocAttr]
  intro b4 hb4 b5 hb5
  obtain ⟨n1, hb5'⟩ := upd_none hb5
  refine (Check_spec b hw).to ?_
  simp only [push_cast, simprocAttr, hb, hc, upd_at, n1, Ne.symm n1]
  exact sub_upd hb5' (sub_upd hb4 (sub_upd hb5' (sub_upd hb4 (.refl _))))
 ·rintro _ h' ⟨hs, rfl⟩
  exact ⟨_, _, ⟨rfl, rfl⟩, le_sub hs (Le.refl _ _)⟩
theorem RunBad_spec (b : IBk) (mask : Int) (hw : b.wf) (hc : b.check ≠ 0) : Spec Tryz.prog G 11 [bkP b, .int .i64 mask] h (Is (.tup [.nilp, .int .i64 b.check]) h) := by
 refine Spec.is C11ok rfl ?_
 simp only [push_cast, simprocAttr]
 refine lpc.rel [1, 6, 10] (fun m ρ h' => m = 1 ∧ h = h' ∧ ρ = [(1, .int .i64 mask), (6, bkP b), (10, .int .i64 0)]) ⟨_, rfl, rfl, rfl⟩ ?_
 rintro m _ _ ⟨rfl, rfl, rfl⟩
 simp only [push_cast, simprocAttr]
 refine (RoundBad_spec b mask hw hc).to ?_
 simp only [push_cast, simprocAttr, hc]
theorem DoBad_spec (b : IBk) (hw : b.wf) (hc : b.check ≠ 0) : Spec Tryz.prog G 25 [bkP b] h (Is (.tup [.nilp, .int .i64 b.check]) h) := by
 refine Spec.is C25ok rfl ?_
 simp only [push_cast, simprocAttr]
 refine (Check_spec b hw).to ?_
 simp only [push_cast, simprocAttr, hc]
theorem TuneBad_spec (b : IBk) (hw : b.wf) (hc : b.check ≠ 0) : Spec Tryz.prog G 26 [bkP b] h (Is (.tup [.nilp, .int .i64 b.check]) h) := by
 refine Spec.is C26ok rfl ?_
 simp only [push_cast, simprocAttr]
 refine (RunBad_spec b 15 hw hc).to ?_
 simp only [push_cast, simprocAttr, hc]
end Go.Ab
end
section
namespace Go.Ab
open Go.Proofs
variable {G : Glo} {h : Heap}
theorem lawFDoes_spec (b : IBk) (he : b.exits.length ≤ 9223372036854775807) : Spec Tryz.prog G 5 [.agg b.cells] h (Is (.bool true) h) := by
 have hL := light_spec (G := G) (h := h) b he
 have hpa : partOf b.cells 0 (some 4) = some (.agg b.cells) := partOf_all rfl
 cases hlt : b.light with
 | false =>
  rw [hlt] at hL
  refine Spec.is C5ok rfl ?_
  simp only [push_cast, simprocAttr, hpa]
  refine hL.to ?_
  simp only [push_cast, simprocAttr, hpa]
  refine awake42_spec.to ?_
  simp only [push_cast, simprocAttr]
 | true =>
  rw [hlt] at hL
  obtain ⟨hwf, ho, hx, hp, hz, hm⟩ := light_facts hlt
  have hC := rCheck_spec (G := G) (h := h) b hwf
  have kOwn := fun h : Heap => Own_spec (G := G) (h := h) b hwf
  by_cases hc : b.check = 0
  ·rw [hc] at hC
   have h1 := run_kps 15 8 hc
   have h2 := (fw_kps h1.check).trans h1
   have hk := (run_kps 15 8 h2.check).trans h2
   have hk1 := fw_kps hc
   have hw1 := hk1.nol.wf hwf
   have hw2 := hk.nol.wf hwf
   have kDo := fun h : Heap => Do_spec (G := G) (h := h) b hwf hc
   have kTu := fun h : Heap => Tune_spec (G := G) (h := h) b hwf hc
   have rDo := fun h : Heap => rfwd_spec (G := G) (h := h) b hwf hc
   rw [← fw_eq] at rDo
   have rTu := fun h : Heap => rTune_spec (G := G) (h := h) b hwf hc
   clear h1 h2
   generalize b.fw = b1 at *
   generalize runP 15 8 (runP 15 8 b).fw = b2 at *
   have kB0 := fun h : Heap => Back_spec (G := G) (h := h) b hwf
   have kB1 := fun h : Heap => Back_spec (G := G) (h := h) b1 hw1
   have kB2 := fun h : Heap => Back_spec (G := G) (h := h) b2 hw2
   have kS0 := fun h : Heap => rSame_spec (G := G) (h := h) b b hwf
   have kS1 := fun h : Heap => rSame_spec (G := G) (h := h) b1 b1 hw1
   have kS2 := fun h : Heap => rSame_spec (G := G) (h := h) b2 b2 hw2
   rw [decide_eq_true rfl] at kS0 kS1 kS2
   refine Spec.is C5ok rfl ?_
   simp only [push_cast, simprocAttr, hpa]
   refine hL.to ?_
   simp only [push_cast, simprocAttr, hpa]
   refine (kOwn _).to ?_
   simp only [push_cast, simprocAttr]
   refine (kDo _).to ?_
   simp only [push_cast, simprocAttr]
   refine (kTu _).to ?_
   simp only [push_cast, simprocAttr, hpa]
   refine hC.to ?_
   simp only [push_cast, simprocAttr, hpa]
   refine (kB1 _).to ?_
   simp only [push_cast, simprocAttr, hpa]
   refine (rDo _).to ?_
   simp only [push_cast, simprocAttr, hpa]
   refine (kS1 _).to ?_
   simp only [push_cast, simprocAttr, hpa]
   refine (kB2 _).to ?_
   simp only [push_cast, simprocAttr, hpa]
   refine (rTu _).to ?_
   simp only [push_cast, simprocAttr, hpa]
   refine (kS2 _).to ?_
   simp only [push_cast, simprocAttr, hpa]
   refine (kB0 _).to ?_
   simp only [push_cast, simprocAttr, hpa]
   refine (kS0 _).to ?_
   simp only [push_cast, simprocAttr]
   refine awake42_spec.to ?_
   simp only [push_cast, simprocAttr]
  ·have hc2 : (b.check != 0) = true := by simp [hc]
   have kDo := fun h : Heap => DoBad_spec (G := G) (h := h) b hwf hc
   have kTu := fun h : Heap => TuneBad_spec (G := G) (h := h) b hwf hc
   refine Spec.is C5ok rfl ?_
   simp only [push_cast, simprocAttr, hpa]
   refine hL.to ?_
   simp only [push_cast, simprocAttr, hpa]
   refine (kOwn _).to ?_
   simp only [push_cast, simprocAttr]
   refine (kDo _).to ?_
   simp only [push_cast, simprocAttr]
   refine (kTu _).to ?_
   simp only [push_cast, simprocAttr, hpa]
   refine hC.to ?_
   simp only [push_cast, simprocAttr, hc2, hc]
   refine awake42_spec.to ?_
   simp only [push_cast, simprocAttr]
end Go.Ab
end
section
namespace Go.Ab
open Go.ChangeShapes Go.WideShapes Go.ChangeAt Go.RowKit
/-! From what a row reads to what is known. -/
inductive TD where
 | b
 | i (k : IntKind)
 | s
 | sl (e : TD)
 | st (fs : List TD)
 | ar (n : Nat) (e : TD)
 deriving Inhabited
def tdFields (P : Program) (rec : TypeId → Option TD) : Nat → List Field → Option (List TD)
 | _, [] => some []
 | n, f :: r => match rec f.type with
  | some td => if f.offset = n then (tdFields P rec (n + P.cellsOf f.type) r).map (td :: ·) else none
  | none => none
def tdOf (P : Program) : Nat → TypeId → Option TD
 | 0, _ => none
 | d + 1, t => match P.underlying t with
  | some .bool => some .b
  | some (.int k) => some (.i k)
  | some .string => some .s
  | some (.slice e) => if 0 < P.cellsOf e then (tdOf P d e).map .sl else none
  | some (.struct fs) => match tdFields P (tdOf P d) 0 fs.toList with
   | some l => if (fs.toList.map fun f => P.cellsOf f.type).sum = P.cellsOf t then some (.st l) else none
   | none => none
  | some (.array n e) => if n * P.cellsOf e = P.cellsOf t then (tdOf P d e).map (.ar n) else none
  | _ => none
inductive Dat : TD → List AV → Prop
 | b (x : Bool) : Dat .b [.bool x]
 | i (k : IntKind) (n : Int) (h : k.min ≤ n ∧ n ≤ k.max) : Dat (.i k) [.int k n]
 | s (x : ByteArray) (h : x.size ≤ maxLen) : Dat .s [.str x]
 | sl (e : TD) (ls : List (List AV)) (hl : ls.length ≤ maxLen) (h : ∀ l ∈ ls, Dat e l) : Dat (.sl e) [.ro ls.flatten ls.length]
 | st (fs : List TD) (ls : List (List AV)) (hl : ls.length = fs.length) (h : ∀ (j : Nat) f l, fs[j]? = some f → ls[j]? = some l → Dat f l) : Dat (.st fs) ls.flatten
 | ar (n : Nat) (e : TD) (ls : List (List AV)) (hl : ls.length = n) (h : ∀ l ∈ ls, Dat e l) : Dat (.ar n e) ls.flatten
def NoO : Nat → Prop := fun _ => False
section
variable {P : Program} {w : World} {H : Type} {enc : TypeId × Value → H} {base : Nat} {spare : Nat → Bool} {held : Bool}
theorem mapM_some {α β : Type} {f : α → Option β} {l : List α} {m : List β} (h : l.mapM f = some m) : l.length = m.length ∧ ∀ (i : Nat) x, l[i]? = some x → ∃ y, m[i]? = some y ∧ f x = some y := mapM_get h
theorem RepL.flatten {O : Nat → Prop} : ∀ (asz : List (List AV)) (vs : List (List Value)), asz.length = vs.length → (∀ (i : Nat) a v, asz[i]? = some a → vs[i]? = some v → RepL w O a v) → RepL w O asz.flatten vs.flatten := by
 intro asz
 induction asz with
 | nil => intro vs hl _; cases vs with
  | nil => exact .nil
  | cons _ _ => simp at hl
 | cons a r ih =>
  intro vs hl h
  cases vs with
  | nil => simp at hl
  | cons v s =>
   simp only [List.flatten_cons]
   exact (h 0 a v rfl rfl).append (ih s (by simpa using hl) fun i a v h1 h2 => h (i + 1) a v (by simpa using h1) (by simpa using h2))
theorem split_cells (n z : Nat) (cs : List Value) (h : cs.length = n * z) : ((List.range n).map fun i => (cs.drop (i * z)).take z).flatten = cs := by
 induction n generalizing cs with
 | zero => simp at h; subst h; simp
 | succ n ih =>
  rw [List.range_succ_eq_map, List.map_cons, List.map_map, List.flatten_cons]
  have hd : (cs.drop z).length = n * z := by simp [h, Nat.succ_mul]
  have := ih (cs.drop z) hd
  have hf : ((fun i => (cs.drop (i * z)).take z) ∘ Nat.succ) = fun i => ((cs.drop z).drop (i * z)).take z := by
   funext i
   simp [List.drop_drop, Nat.succ_mul, Nat.add_comm]
  rw [hf, this]
  simp
theorem split_fields : ∀ (fs : List Field) (n : Nat) (cs : List Value), (∀ (j : Nat) f, fs[j]? = some f → f.offset = n + ((fs.take j).map fun f => P.cellsOf f.type).sum) → cs.length = n + (fs.map fun f => P.cellsOf f.type).sum →
  (fs.map fun f => (cs.drop f.offset).take (P.cellsOf f.type)).flatten = cs.drop n := by
 intro fs
 induction fs with
 | nil => intro n cs _ hl; simp at hl; simp [← hl]
 | cons f r ih =>
  intro n cs ho hl
  have h0 := ho 0 f rfl
  simp at h0
  simp only [List.map_cons, List.sum_cons] at hl
  have := ih (n + P.cellsOf f.type) cs (fun j g hg => by
   have := ho (j + 1) g (by simpa using hg)
   simp only [List.take_succ_cons, List.map_cons, List.sum_cons] at this
   omega) (by omega)
  rw [List.map_cons, List.flatten_cons, this, h0, ← List.drop_drop, List.take_append_drop]
theorem tdFields_get {rec : TypeId → Option TD} : ∀ (fs : List Field) (n : Nat) (l : List TD), tdFields P rec n fs = some l →
  l.length = fs.length ∧ (∀ (j : Nat) f, fs[j]? = some f → f.offset = n + ((fs.take j).map fun f => P.cellsOf f.type).sum ∧ ∃ td, l[j]? = some td ∧ rec f.type = some td) := by
 intro fs
 induction fs with
 | nil => intro n l h; simp [tdFields] at h; subst h; exact ⟨rfl, fun j f h => by simp at h⟩
 | cons f r ih =>
  intro n l h
  simp only [tdFields] at h
  split at h
  ·rename_i td htd
   split at h
   ·rename_i ho
    obtain ⟨m, hm, rfl⟩ := Option.map_eq_some_iff.1 h
    obtain ⟨i1, i2⟩ := ih _ _ hm
    refine ⟨by simp [i1], fun j g hg => ?_⟩
    cases j with
    | zero => simp at hg; subst hg; exact ⟨by simp [ho], td, rfl, htd⟩
    | succ j =>
     obtain ⟨k1, k2⟩ := i2 j g (by simpa using hg)
     refine ⟨by rw [k1]; simp; omega, ?_⟩
     simpa using k2
   ·cases h
  ·cases h
theorem cells_at {a : Addr} {n : Nat} {cs : List Value} (h : w.cells? base a n = some cs) : cs.length = n ∧ ∀ i v, cs[i]? = some v → w.cell? (a.add i) = some v := by
 unfold World.cells? at h
 split at h
 ·obtain ⟨h1, h2⟩ := mapM_some h
  simp at h1
  refine ⟨h1.symm, fun i v hv => ?_⟩
  have hlt : i < n := by rw [h1]; exact (List.getElem?_eq_some_iff.1 hv).1
  obtain ⟨y, hy, hy'⟩ := h2 i i (by simp [hlt])
  rw [hy] at hv
  cases hv
  exact hy'
 ·cases h
theorem dat_of : ∀ (fuel : Nat) (t : TypeId) (cs : List Value) (x : DataW H × List MemPlace), DataW.trod enc P w base spare held fuel t cs = some x → ∀ (d : Nat) (td : TD), tdOf P d t = some td →
  ∃ avs, Dat td avs ∧ RepL w NoO avs cs ∧ (∀ c ∈ cs, c.oneCell' = true) := by
 intro fuel
 induction fuel with
 | zero => intro t cs x h; simp [DataW.trod] at h
 | succ fuel ih =>
  intro t cs x h d td htd
  cases d with
  | zero => simp [tdOf] at htd
  | succ d =>
   cases hu : P.underlying t with
   | none => simp [tdOf, hu] at htd
   | some u =>
    cases u <;> simp only [tdOf, hu] at htd <;> (try (simp at htd; done))
    case bool =>
     cases htd
     simp only [DataW.trod, hu] at h
     split at h <;> (try (cases h; done)) <;> rename_i h1 <;> (try (cases h1; done))
     exact ⟨_, .b _, RepL.nil.cons (.bool _), by simp [Value.oneCell']⟩
    case int k =>
     cases htd
     simp only [DataW.trod, hu] at h
     split at h <;> (try (cases h; done)) <;> rename_i h1 <;> (try (cases h1; done))
     cases h1
     split at h
     ·rename_i hk
      obtain ⟨rfl, hk2⟩ := hk
      simp [Lit.wf] at hk2
      exact ⟨_, .i _ _ hk2, RepL.nil.cons (.int _ _), by simp [Value.oneCell']⟩
     ·cases h
    case string =>
     cases htd
     simp only [DataW.trod, hu] at h
     split at h <;> (try (cases h; done)) <;> rename_i h1 <;> (try (cases h1; done))
     split at h
     ·rename_i hl
      exact ⟨_, .s _ hl, RepL.nil.cons (.str _), by simp [Value.oneCell']⟩
     ·cases h
    case slice e =>
     split at htd
     ·rename_i hz
      obtain ⟨te, hte, rfl⟩ := Option.map_eq_some_iff.1 htd
      simp only [DataW.trod, hu] at h
      split at h <;> (try (cases h; done)) <;> rename_i h1 <;> (try (cases h1; done))
      ·exact ⟨_, .sl te [] (by simp) (by simp), RepL.nil.cons (.roe none 0), by simp [Value.oneCell']⟩
      ·rename_i a len cap
       cases h1
       split at h
       ·rename_i hc
        simp only [Option.bind_eq_some_iff] at h
        obtain ⟨elems, hel, hx2⟩ := h
        obtain ⟨e1, e2⟩ := mapM_some hel
        simp at e1
        -- the elements, one by one
        have key : ∀ i, i < len → ∃ (cs : List Value) (avs : List AV), w.cells? base (a.add (i * P.cellsOf e)) (P.cellsOf e) = some cs ∧ Dat te avs ∧ RepL w NoO avs cs ∧ (∀ c ∈ cs, c.oneCell' = true) := by
         intro i hi
         obtain ⟨y, _, hy⟩ := e2 i i (by simp [hi])
         simp only [Option.bind_eq_some_iff] at hy
         obtain ⟨cs, h1, h2⟩ := hy
         obtain ⟨avs, h3, h4, h5⟩ := ih e cs y h2 d te hte
         exact ⟨cs, avs, h1, h3, h4, h5⟩
        have kall : ∃ ls : List (List AV), ls.length = len ∧ ∀ (i : Nat) l, ls[i]? = some l → ∃ cs, w.cells? base (a.add (i * P.cellsOf e)) (P.cellsOf e) = some cs ∧ Dat te l ∧ RepL w NoO l cs ∧ (∀ c ∈ cs, c.oneCell' = true) := by
         clear e1 e2 hel hc hx2
         induction len with
         | zero => exact ⟨[], rfl, fun i l h => by simp at h⟩
         | succ n ihn =>
          obtain ⟨ls, l1, l2⟩ := ihn fun i hi => key i (by omega)
          obtain ⟨cs, avs, k1, k2, k3, k4⟩ := key n (by omega)
          refine ⟨ls ++ [avs], by simp [l1], fun i l hl => ?_⟩
          by_cases hi : i < ls.length
          ·rw [List.getElem?_append_left hi] at hl
           exact l2 i l hl
          ·rw [List.getElem?_append_right (by omega)] at hl
           have : i = n := by
            have := (List.getElem?_eq_some_iff.1 hl).1
            simp at this; omega
           subst this
           rw [l1] at hl
           simp at hl
           subst hl
           exact ⟨cs, k1, k2, k3, k4⟩
        obtain ⟨ls, l1, l2⟩ := kall
        have hdat : Dat (.sl te) [.ro ls.flatten ls.length] := .sl te ls (by omega) fun l hl => by
         obtain ⟨i, hi⟩ := List.mem_iff_getElem?.1 hl
         obtain ⟨cs, _, k2, _⟩ := l2 i l hi
         exact k2
        refine ⟨_, hdat, RepL.nil.cons ?_, by simp [Value.oneCell']⟩
        rw [l1]
        by_cases h0 : len = 0
        ·subst h0
         rw [List.eq_nil_of_length_eq_zero l1]
         exact .roe _ _
        ·-- the row
         have hspot : a.spot = none := by
          obtain ⟨cs, avs, k1, k2, k3, k4⟩ := key 0 (by omega)
          obtain ⟨q1, q2⟩ := cells_at k1
          have hc0 := q2 0 _ (List.getElem?_eq_getElem (by omega))
          simp only [Nat.zero_mul] at hc0
          have : (a.add 0).add 0 = a := by simp [Addr.add]
          rw [this] at hc0
          exact World.cell?_spot hc0
         obtain ⟨b, o, sp⟩ := a
         simp only at hspot
         subst hspot
         have hlens : ∀ (i : Nat) l, ls[i]? = some l → l.length = P.cellsOf e := by
          intro i l hl
          obtain ⟨cs, k1, _, k3, _⟩ := l2 i l hl
          rw [k3.1]; exact (cells_at k1).1
         have hcell : ∀ (j : Nat) v, ls.flatten[j]? = some v → ∃ c, w.cell? ⟨b, o + j, none⟩ = some c ∧ c.oneCell' = true ∧ Rep w NoO v c := by
          have gen : ∀ (m : Nat) (ms : List (List AV)), (∀ (i : Nat) l, ms[i]? = some l → ls[m + i]? = some l) → ∀ (j : Nat) v, ms.flatten[j]? = some v → ∃ c, w.cell? ⟨b, o + (m * P.cellsOf e + j), none⟩ = some c ∧ c.oneCell' = true ∧ Rep w NoO v c := by
           intro m ms
           induction ms generalizing m with
           | nil => intro _ j v hv; simp at hv
           | cons l r ihr =>
            intro hm j v hv
            have hl := hm 0 l rfl
            simp only [Nat.add_zero] at hl
            obtain ⟨cs, k1, k2, k3, k4⟩ := l2 m l hl
            obtain ⟨q1, q2⟩ := cells_at k1
            have hll := hlens m l hl
            rw [List.flatten_cons] at hv
            by_cases hj : j < l.length
            ·rw [List.getElem?_append_left hj] at hv
             have hcs : cs[j]? = some (cs[j]'(by omega)) := List.getElem?_eq_getElem _
             have := q2 j _ hcs
             rw [Addr.add_lit, Addr.add_lit] at this
             exact ⟨_, by rw [← Nat.add_assoc]; exact this, k4 _ (List.getElem_mem _), k3.2 j v _ hv hcs⟩
            ·rw [List.getElem?_append_right (by omega)] at hv
             obtain ⟨c, z1, z2, z3⟩ := ihr (m + 1) (fun i l hl => by
              have := hm (i + 1) l (by simpa using hl)
              rwa [show m + 1 + i = m + (i + 1) by omega]) (j - l.length) v hv
             refine ⟨c, ?_, z2, z3⟩
             rw [show m * P.cellsOf e + j = (m + 1) * P.cellsOf e + (j - l.length) by rw [Nat.succ_mul]; omega]
             exact z1
          intro j v hv
          have := gen 0 ls (fun i l hl => by rwa [Nat.zero_add]) j v hv
          simpa using this
         have hb : b < w.heap.size := by
          obtain ⟨cs, avs, k1, k2, k3, k4⟩ := key 0 (by omega)
          obtain ⟨q1, q2⟩ := cells_at k1
          have hc0 := q2 0 _ (List.getElem?_eq_getElem (by omega))
          simp only [Nat.zero_mul, Addr.add_lit] at hc0
          unfold World.cell? at hc0
          cases hbb : w.heap[b]? with
          | none => simp [hbb] at hc0
          | some y => exact (Array.getElem?_eq_some_iff.1 hbb).1
         refine .ro _ _ _ b o (fun j => (w.cell? ⟨b, o + j, none⟩).getD undef) hc.2.1 hb (fun h => h) (fun j v hv => ?_) (fun j v hv => ?_)
         ·obtain ⟨c, z1, z2, _⟩ := hcell j v hv
          rw [z1]; exact ⟨rfl, z2⟩
         ·obtain ⟨c, z1, _, z3⟩ := hcell j v hv
          rw [z1]; exact z3
       ·cases h
     ·cases htd
    case struct fs =>
     split at htd
     ·rename_i l hl
      split at htd
      ·rename_i hsum
       cases htd
       simp only [DataW.trod, hu] at h
       split at h
       ·rename_i hlen
        obtain ⟨xs, hxs, _⟩ := Option.map_eq_some_iff.1 h
        obtain ⟨e1, e2⟩ := mapM_some hxs
        obtain ⟨f1, f2⟩ := tdFields_get fs.toList 0 l hl
        have key : ∀ (j : Nat) f, fs.toList[j]? = some f → ∃ td avs, l[j]? = some td ∧ Dat td avs ∧ RepL w NoO avs ((cs.drop f.offset).take (P.cellsOf f.type)) ∧ (∀ c ∈ (cs.drop f.offset).take (P.cellsOf f.type), c.oneCell' = true) := by
         intro j f hf
         obtain ⟨y, _, hy⟩ := e2 j f hf
         obtain ⟨_, td, k1, k2⟩ := f2 j f hf
         obtain ⟨avs, h3, h4, h5⟩ := ih f.type _ y hy d td k2
         exact ⟨td, avs, k1, h3, h4, h5⟩
        have kall : ∃ ls : List (List AV), ls.length = fs.toList.length ∧ ∀ (j : Nat) f a, fs.toList[j]? = some f → ls[j]? = some a → ∃ td, l[j]? = some td ∧ Dat td a ∧ RepL w NoO a ((cs.drop f.offset).take (P.cellsOf f.type)) := by
         clear e1 e2 hxs h f1 f2 hl hlen hsum
         generalize fs.toList = F at key
         induction F generalizing l with
         | nil => exact ⟨[], rfl, fun j f a h => by simp at h⟩
         | cons g r ihF =>
          obtain ⟨td, avs, k1, k2, k3, _⟩ := key 0 g rfl
          cases l with
          | nil => simp at k1
          | cons l0 lr =>
           obtain ⟨ls, m1, m2⟩ := ihF lr fun j f hf => by
            obtain ⟨td, avs, z1, z2⟩ := key (j + 1) f (by simpa using hf)
            exact ⟨td, avs, by simpa using z1, z2⟩
           refine ⟨avs :: ls, by simp [m1], fun j f a hf ha => ?_⟩
           cases j with
           | zero => simp at hf ha; subst hf; subst ha; exact ⟨td, k1, k2, k3⟩
           | succ j =>
            obtain ⟨td, z1, z2⟩ := m2 j f a (by simpa using hf) (by simpa using ha)
            exact ⟨td, by simpa using z1, z2⟩
        obtain ⟨ls, m1, m2⟩ := kall
        have hsplit := split_fields (P := P) fs.toList 0 cs (fun j f hf => (f2 j f hf).1) (by rw [hlen, hsum]; simp)
        simp only [List.drop_zero] at hsplit
        have hrep : RepL w NoO ls.flatten cs := by
         rw [← hsplit]
         refine RepL.flatten _ _ (by simp [m1]) fun j a v ha hv => ?_
         simp only [List.getElem?_map, Option.map_eq_some_iff] at hv
         obtain ⟨f, hf, rfl⟩ := hv
         obtain ⟨td, _, _, z3⟩ := m2 j f a hf ha
         exact z3
        refine ⟨ls.flatten, .st l ls (by rw [m1, f1]) fun j td a htd ha => ?_, hrep, ?_⟩
        ·have hlt : j < fs.toList.length := by rw [← m1]; exact (List.getElem?_eq_some_iff.1 ha).1
         obtain ⟨td', z1, z2, _⟩ := m2 j _ a (List.getElem?_eq_getElem hlt) ha
         rw [htd] at z1
         cases z1
         exact z2
        ·intro c hc
         rw [← hsplit] at hc
         obtain ⟨m, hm, hcm⟩ := List.mem_flatten.1 hc
         obtain ⟨f, hf, rfl⟩ := List.mem_map.1 hm
         obtain ⟨j, hj⟩ := List.mem_iff_getElem?.1 hf
         obtain ⟨_, _, _, _, _, k5⟩ := key j f hj
         exact k5 c hcm
       ·cases h
      ·cases htd
     ·cases htd
    case array n e =>
     split at htd
     ·rename_i hsz
      obtain ⟨te, hte, rfl⟩ := Option.map_eq_some_iff.1 htd
      simp only [DataW.trod, hu] at h
      split at h
      ·rename_i hlen
       obtain ⟨xs, hxs, _⟩ := Option.map_eq_some_iff.1 h
       obtain ⟨e1, e2⟩ := mapM_some hxs
       have key : ∀ i, i < n → ∃ avs, Dat te avs ∧ RepL w NoO avs ((cs.drop (i * P.cellsOf e)).take (P.cellsOf e)) ∧ (∀ c ∈ (cs.drop (i * P.cellsOf e)).take (P.cellsOf e), c.oneCell' = true) := by
        intro i hi
        obtain ⟨y, _, hy⟩ := e2 i i (by simp [hi])
        exact ih e _ y hy d te hte
       have kall : ∃ ls : List (List AV), ls.length = n ∧ ∀ (i : Nat) a, ls[i]? = some a → Dat te a ∧ RepL w NoO a ((cs.drop (i * P.cellsOf e)).take (P.cellsOf e)) := by
        clear e1 e2 hxs h hsz hlen htd hu
        induction n with
        | zero => exact ⟨[], rfl, fun i a h => by simp at h⟩
        | succ n ihn =>
         obtain ⟨ls, l1, l2⟩ := ihn fun i hi => key i (by omega)
         obtain ⟨avs, k1, k2, _⟩ := key n (by omega)
         refine ⟨ls ++ [avs], by simp [l1], fun i a ha => ?_⟩
         by_cases hi : i < ls.length
         ·rw [List.getElem?_append_left hi] at ha
          exact l2 i a ha
         ·rw [List.getElem?_append_right (by omega)] at ha
          have : i = n := by
           have := (List.getElem?_eq_some_iff.1 ha).1
           simp at this; omega
          subst this
          rw [l1] at ha
          simp at ha
          subst ha
          exact ⟨k1, k2⟩
       obtain ⟨ls, l1, l2⟩ := kall
       have hsplit := split_cells n (P.cellsOf e) cs (by rw [hlen, hsz])
       have hrep : RepL w NoO ls.flatten cs := by
        rw [← hsplit]
        refine RepL.flatten _ _ (by simp [l1]) fun j a v ha hv => ?_
        have hlt : j < n := by rw [← l1]; exact (List.getElem?_eq_some_iff.1 ha).1
        simp only [List.getElem?_map, Option.map_eq_some_iff] at hv
        obtain ⟨i, hi, rfl⟩ := hv
        rw [List.getElem?_range hlt] at hi
        cases hi
        exact (l2 j a ha).2
       refine ⟨ls.flatten, .ar n te ls l1 fun a ha => ?_, hrep, ?_⟩
       ·obtain ⟨i, hi⟩ := List.mem_iff_getElem?.1 ha
        exact (l2 i a hi).1
       ·intro c hc
        rw [← hsplit] at hc
        obtain ⟨m, hm, hcm⟩ := List.mem_flatten.1 hc
        obtain ⟨i, hi, rfl⟩ := List.mem_map.1 hm
        obtain ⟨_, _, _, k5⟩ := key i (by simpa using hi)
        exact k5 c hcm
      ·cases h
     ·cases htd
def argOf (td : TD) (avs : List AV) : AV :=
 match td with
 | .st _ | .ar _ _ => .agg avs
 | _ => avs.headD .any
theorem arg_of {r : Go.Reach} {b0 : Nat} {t : TypeId} {v : Value} {x : DataW H} {ps : List MemPlace} (hv : Value.okWide P w r b0 t v) (h : DataW.Trod enc P w base spare held t v x ps) {d : Nat} {td : TD} (htd : tdOf P d t = some td) :
  ∃ avs, Dat td avs ∧ Rep w NoO (argOf td avs) v := by
 obtain ⟨fuel, hf⟩ := h
 obtain ⟨avs, h1, h2, h3⟩ := dat_of fuel t _ _ hf d td htd
 refine ⟨avs, h1, ?_⟩
 have one : (∃ a, avs = [a]) → v.cells.toList = [v] → (match td with | .st _ | .ar _ _ => False | _ => True) → Rep w NoO (argOf td avs) v := by
  rintro ⟨a, rfl⟩ hc ht
  rw [hc] at h2
  have hr := h2.2 0 a v rfl rfl
  cases td <;> first | exact hr | exact ht.elim
 have agg : (∃ cs, v = .agg cs) → argOf td avs = .agg avs → Rep w NoO (argOf td avs) v := by
  rintro ⟨cs, rfl⟩ he
  rw [he]
  have := h2.agg h3
  simpa [Value.cells] using this
 cases d with
 | zero => simp [tdOf] at htd
 | succ d =>
  cases hu : P.underlying t with
  | none => simp [tdOf, hu] at htd
  | some u =>
   cases u <;> simp only [tdOf, hu] at htd <;> (try (simp at htd; done))
   case bool =>
    cases htd
    simp only [Value.okWide, hu, Cell.okWide] at hv
    cases h1
    refine one ⟨_, rfl⟩ ?_ trivial
    cases v <;> simp_all [Cell.ok, Value.cells]
   case int k =>
    cases htd
    obtain ⟨n, rfl⟩ := okWide_int hu hv
    cases h1
    exact one ⟨_, rfl⟩ rfl trivial
   case string =>
    cases htd
    obtain ⟨n, rfl⟩ := okWide_string hu hv
    cases h1
    exact one ⟨_, rfl⟩ rfl trivial
   case slice e =>
    split at htd
    ·obtain ⟨te, _, rfl⟩ := Option.map_eq_some_iff.1 htd
     obtain ⟨a, len, cap, rfl⟩ := okWide_slice hu hv
     cases h1
     exact one ⟨_, rfl⟩ rfl trivial
    ·cases htd
   case struct fs =>
    split at htd
    ·split at htd
     ·cases htd
      simp only [Value.okWide, hu] at hv
      obtain ⟨cs, hc, _⟩ := hv
      exact agg ⟨cs, hc⟩ rfl
     ·cases htd
    ·cases htd
   case array n e =>
    split at htd
    ·obtain ⟨te, _, rfl⟩ := Option.map_eq_some_iff.1 htd
     simp only [Value.okWide, hu] at hv
     obtain ⟨cs, hc, _⟩ := hv
     exact agg ⟨cs, hc⟩ rfl
    ·cases htd
def noG : Glo := .of fun _ => .any
theorem law_calls {f : FuncId} {args : List AV} {vs : List Value} (hs : Spec P noG f args noH (fun r _ => r = .bool true)) (hr : RepL w NoO args vs) :
  Calls P f vs.toArray w fun e w' => e = .returned (.bool true) ∧ Below w.heap.size w w' := by
 refine (hs w vs (fun b x h => by cases h) ⟨fun g => .any _, fun _ _ e => e.elim⟩ (by rw [noH_dom]; exact hr)).mono ?_
 rintro e w' ⟨v, r, h', rfl, rfl, _, h3, h4⟩
 refine ⟨by rw [rep_bool h3], ⟨h4.os, h4.tape, h4.out, h4.size, fun k hk => (h4.blk k hk rfl).2⟩⟩
end
end Go.Ab
end
section
namespace Go.Ab
theorem dat_i {k : IntKind} {l : List AV} (h : Dat (.i k) l) : ∃ n, l = [.int k n] ∧ k.min ≤ n ∧ n ≤ k.max := by
 cases h with
 | i k n h => exact ⟨n, rfl, h⟩
theorem dat_list {α : Type} {e : TD} (f : α → List AV) (ok : α → Prop) (one : ∀ l, Dat e l → ∃ x, ok x ∧ l = f x) : ∀ (ls : List (List AV)), (∀ l ∈ ls, Dat e l) →
  ∃ xs : List α, xs.length = ls.length ∧ ls.flatten = xs.flatMap f ∧ ∀ x ∈ xs, ok x := by
 intro ls
 induction ls with
 | nil => intro _; exact ⟨[], rfl, rfl, fun x h => by cases h⟩
 | cons l r ih =>
  intro h
  obtain ⟨x, hx, rfl⟩ := one l (h l (by simp))
  obtain ⟨xs, h1, h2, h3⟩ := ih fun l hl => h l (by simp [hl])
  refine ⟨x :: xs, by simp [h1], by simp [h2], fun y hy => ?_⟩
  rcases List.mem_cons.1 hy with rfl | hy
  ·exact hx
  ·exact h3 y hy
theorem dat_st {fs : List TD} {l : List AV} (h : Dat (.st fs) l) : ∃ ls : List (List AV), ls.length = fs.length ∧ l = ls.flatten ∧ ∀ (j : Nat) f l, fs[j]? = some f → ls[j]? = some l → Dat f l := by
 cases h with
 | st fs ls hl h => exact ⟨ls, hl, rfl, h⟩
theorem dat_st_nil {l : List AV} (h : Dat (.st []) l) : l = [] := by
 obtain ⟨ls, h1, rfl, _⟩ := dat_st h
 rw [List.eq_nil_of_length_eq_zero h1]; rfl
theorem dat_st_cons {f : TD} {fs : List TD} {l : List AV} (h : Dat (.st (f :: fs)) l) : ∃ a b, l = a ++ b ∧ Dat f a ∧ Dat (.st fs) b := by
 obtain ⟨ls, h1, rfl, h2⟩ := dat_st h
 cases ls with
 | nil => simp at h1
 | cons a r => exact ⟨a, r.flatten, rfl, h2 0 f a rfl rfl, .st fs r (by simpa using h1) fun j f l x y => h2 (j + 1) f l (by simpa using x) (by simpa using y)⟩
theorem dat_u32 {l : List AV} (h : Dat (.i .u32) l) : ∃ x : BitVec 32, l = [.int .u32 (x.toNat : Int)] := by
 obtain ⟨n, rfl, h1, h2⟩ := dat_i h
 simp [IntKind.min, IntKind.max, IntKind.signed, IntKind.bits] at h1 h2
 refine ⟨BitVec.ofNat 32 n.toNat, ?_⟩
 rw [BitVec.toNat_ofNat, Nat.mod_eq_of_lt (by omega), Int.toNat_of_nonneg h1]
theorem dat_i64 {l : List AV} (h : Dat (.i .i64) l) : ∃ n : Int, l = [.int .i64 n] ∧ -9223372036854775808 ≤ n ∧ n ≤ 9223372036854775807 := by
 obtain ⟨n, rfl, h1, h2⟩ := dat_i h
 simp [IntKind.min, IntKind.max, IntKind.signed, IntKind.bits] at h1 h2
 exact ⟨n, rfl, h1, h2⟩
theorem flatMap_one {α : Type} (f : α → AV) (l : List α) : (l.flatMap fun x => [f x]) = l.map f := by
 induction l with
 | nil => rfl
 | cons a r ih => simp [ih]
theorem dat_words {l : List AV} (h : Dat (.sl (.i .u32)) l) : ∃ xs : List (BitVec 32), xs.length ≤ maxLen ∧ l = [.ro (wds xs) xs.length] := by
 cases h with
 | sl e ls hl h =>
  obtain ⟨xs, h1, h2, _⟩ := dat_list (fun x : BitVec 32 => [AV.int .u32 (x.toNat : Int)]) (fun _ => True) (fun l hl => by obtain ⟨x, rfl⟩ := dat_u32 hl; exact ⟨x, trivial, rfl⟩) ls h
  rw [flatMap_one] at h2
  exact ⟨xs, by omega, by rw [h2, ← h1]; rfl⟩
theorem dat_sl {α : Type} {e : TD} (f : α → List AV) (ok : α → Prop) (one : ∀ l, Dat e l → ∃ x, ok x ∧ l = f x) {l : List AV} (h : Dat (.sl e) l) : ∃ xs : List α, (∀ x ∈ xs, ok x) ∧ xs.length ≤ maxLen ∧ l = [.ro (xs.flatMap f) xs.length] := by
 cases h with
 | sl e ls hl h =>
  obtain ⟨xs, h1, h2, h3⟩ := dat_list f ok one ls h
  exact ⟨xs, h3, by omega, by rw [h2, ← h1]⟩
end Go.Ab
end
section
namespace Go.Ab
def tdOp : TD := .st [.i .i64, .i .i64, .i .i64, .i .u32, .i .i64, .i .i64]
def tdVl : TD := .st [.i .i64, .i .i64]
def tdEx : TD := .st [.i .i64, .i .u32, .i .i64, .i .i64, .sl tdVl]
def tdBk : TD := .st [.sl (.i .u32), .sl tdOp, .sl tdEx, .i .i64]
theorem dat_op {l : List AV} (h : Dat tdOp l) : ∃ o : IOp, True ∧ l = o.cells := by
 obtain ⟨_, _, rfl, h1, h⟩ := dat_st_cons h
 obtain ⟨_, _, rfl, h2, h⟩ := dat_st_cons h
 obtain ⟨_, _, rfl, h3, h⟩ := dat_st_cons h
 obtain ⟨_, _, rfl, h4, h⟩ := dat_st_cons h
 obtain ⟨_, _, rfl, h5, h⟩ := dat_st_cons h
 obtain ⟨_, _, rfl, h6, h⟩ := dat_st_cons h
 obtain rfl := dat_st_nil h
 obtain ⟨a, rfl, _⟩ := dat_i64 h1
 obtain ⟨b, rfl, _⟩ := dat_i64 h2
 obtain ⟨c, rfl, _⟩ := dat_i64 h3
 obtain ⟨d, rfl⟩ := dat_u32 h4
 obtain ⟨e, rfl, _⟩ := dat_i64 h5
 obtain ⟨f, rfl, _⟩ := dat_i64 h6
 exact ⟨⟨a, b, c, d, e, f⟩, trivial, rfl⟩
theorem dat_vl {l : List AV} (h : Dat tdVl l) : ∃ v : IVl, True ∧ l = v.cells := by
 obtain ⟨_, _, rfl, h1, h⟩ := dat_st_cons h
 obtain ⟨_, _, rfl, h2, h⟩ := dat_st_cons h
 obtain rfl := dat_st_nil h
 obtain ⟨a, rfl, _⟩ := dat_i64 h1
 obtain ⟨b, rfl, _⟩ := dat_i64 h2
 exact ⟨⟨a, b⟩, trivial, rfl⟩
theorem dat_ex {l : List AV} (h : Dat tdEx l) : ∃ e : IEx, True ∧ l = e.cells := by
 obtain ⟨_, _, rfl, h1, h⟩ := dat_st_cons h
 obtain ⟨_, _, rfl, h2, h⟩ := dat_st_cons h
 obtain ⟨_, _, rfl, h3, h⟩ := dat_st_cons h
 obtain ⟨_, _, rfl, h4, h⟩ := dat_st_cons h
 obtain ⟨_, _, rfl, h5, h⟩ := dat_st_cons h
 obtain rfl := dat_st_nil h
 obtain ⟨a, rfl, _⟩ := dat_i64 h1
 obtain ⟨b, rfl⟩ := dat_u32 h2
 obtain ⟨c, rfl, _⟩ := dat_i64 h3
 obtain ⟨d, rfl, _⟩ := dat_i64 h4
 obtain ⟨m, _, _, rfl⟩ := dat_sl IVl.cells (fun _ => True) (fun l => dat_vl) h5
 exact ⟨⟨a, b, c, d, m⟩, trivial, rfl⟩
theorem dat_bk {l : List AV} (h : Dat tdBk l) : ∃ b : IBk, b.exits.length ≤ maxLen ∧ l = b.cells := by
 obtain ⟨_, _, rfl, h1, h⟩ := dat_st_cons h
 obtain ⟨_, _, rfl, h2, h⟩ := dat_st_cons h
 obtain ⟨_, _, rfl, h3, h⟩ := dat_st_cons h
 obtain ⟨_, _, rfl, h4, h⟩ := dat_st_cons h
 obtain rfl := dat_st_nil h
 obtain ⟨p, _, rfl⟩ := dat_words h1
 obtain ⟨o, _, _, rfl⟩ := dat_sl IOp.cells (fun _ => True) (fun l => dat_op) h2
 obtain ⟨e, _, he, rfl⟩ := dat_sl IEx.cells (fun _ => True) (fun l => dat_ex) h3
 obtain ⟨a, rfl, _⟩ := dat_i64 h4
 exact ⟨⟨p, o, e, a⟩, he, rfl⟩
end Go.Ab
end
section
namespace Go.Proofs.YtfgooaploagiaaaGreat
open Go.ChangeShapes Go.WideShapes Go.ChangeAt Go.RowKit Go.Ab

theorem ownForwardDoesSaid : ownKnob Tryz.prog.godebug = none := by kernel_rfl
theorem laidOutForwardDoesSaid : laidOutB Tryz.prog = true := by kernel_rfl
theorem tdForwardDoesSaid0 : tdOf Tryz.prog 8 26 = some (tdBk) := by kernel_rfl
set_option maxRecDepth 100000 in
theorem liftedForwardDoesSaid (os : Os) (started : os.Started) (H : Type) (enc : TypeId × Value → H) :
  ReturnsInHanded {} Tryz.checked os 5 .any (Rows.forwardDoesSpec.pre6 enc Tryz.prog Tryz.f5 Rows.forwardDoesRow.domain false) (Rows.forwardDoesSpec.post enc Tryz.prog Tryz.f5 false true false false) := by
 refine returnsInHanded_of_change (C := Tryz.checked) ownForwardDoesSaid started (by kernel_rfl) Tryz.func5
  (ChangeSpec.witness6 (enc := enc) (C := Tryz.checked) false ⟨#[], #[.agg #[.slice none 0 0, .slice none 0 0, .slice none 0 0, .int .i64 0]], []⟩ 8 (by kernel_rfl) (by kernel_rfl) (by kernel_rfl) (by kernel_rfl)) ?_
 intro W base args ds gs before hval0 hW hcnd _
 have hval : ∀ (j : Nat) t v, Tryz.f5.params[j]? = some t → args[j]? = some v → Value.okWide Tryz.prog W .any base t v := hval0
 have hW' := hW
 obtain ⟨p, q, hA0, hV, rfl, hfz, hnd⟩ := hW
 have hA : DataW.TrodAll enc Tryz.prog W 0 (fun _ => true) true Tryz.f5.params.toList args.toList ds p := hA0
 rw [Tryz.params5] at hA hval
 obtain ⟨v0, vs0, d0, ds0, p0, q0, hargs, rfl, rfl, h0, r0⟩ := trodAll_cons hA
 obtain ⟨rfl, rfl, rfl⟩ := trodAll_nil r0
 obtain rfl : args = #[v0] := by cases args; simp_all
 obtain ⟨rfl, rfl⟩ := trodVars_none hV
 have k0 := h0
 have lt0 : ∀ x ∈ p0, x.block < W.heap.size := by obtain ⟨m, hm⟩ := k0; exact DataW.trod_lt m _ _ _ hm
 obtain ⟨av0, dt0, rp0⟩ := arg_of (hval 0 26 v0 rfl rfl) h0 tdForwardDoesSaid0
 obtain ⟨x0, hx0, rfl⟩ := dat_bk dt0
 clear hA0 hval0
 refine (law_calls ((lawFDoes_spec x0 (by have := hx0; unfold maxLen at this; exact this)).mono fun r _ e => e.1) (RepL.nil.cons rp0)).mono fun e W' ⟨he, bel⟩ => ?_
 subst he
 exact ⟨_, rfl, _, _, _, [], _, [], hW', trodAll_mk1 (shut_bool Tryz.underlying4 _), (trodAll_cons_mk (Below.trod laidOutForwardDoesSaid (by kernel_rfl) (of_decide_eq_true (by kernel_rfl)) k0 bel lt0) trodAll_mk0), rfl, bel.frame _, fun h => by cases h⟩
theorem overForwardDoesSaid : Rows.forwardDoesRow.holds Tryz.pinned (OpenSpec.ofChange Rows.forwardDoesSpec) :=
 OpenClaim.holds_of_wide 5 Tryz.f5 rfl rfl rfl rfl rfl rfl rfl ⟨rfl, rfl, rfl, rfl, rfl⟩ rfl rfl rfl rfl rfl (by kernel_rfl) Tryz.func5 (by kernel_rfl)
  (of_decide_eq_true (by kernel_rfl)) (by unfold Func.isWrapper; first | (rw [if_pos (by decide +kernel)]; kernel_rfl) | (rw [if_neg (by decide +kernel)]; exact ⟨rfl, rfl⟩))
  (fun os started H enc _ => liftedForwardDoesSaid os started H enc)
theorem provedForwardDoesSaid : Rows.ForwardDoesSaid := overForwardDoesSaid
end Go.Proofs.YtfgooaploagiaaaGreat
end
