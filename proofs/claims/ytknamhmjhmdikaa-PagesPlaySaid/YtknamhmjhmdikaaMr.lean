/- A new row of numbers that a contract of the library gives, as data. -/
import Derived.Test.YtknamhmjhmdikaaMq
import Derived.Test.YtknamhmjhmdikaaPw
import Derived.Laws.AppendOwn
import Derived.Below
import Derived.Lib.SlKeysI
import Derived.Lib.SlMapMerge
namespace Go.Ab
theorem below_keeps {w w' : World} {h : Heap} (hh : HRep w h) (hb : RowKit.Below w.heap.size w w') : HRep w' h ∧ Fr w h w' h := by
  have hf : Fr w h w' h := ⟨hb.size, fun b hl hn => ⟨hn, hb.block b hl⟩, fun b ⟨c, t, f, e⟩ => ⟨c, t, f, (hb.block b (Array.getElem?_eq_some_iff.1 e).1).trans e⟩, hb.os, hb.tape, hb.output⟩
  exact ⟨fun b y hy => own_keep (hh b y hy) (hb.block b (own_lt (hh b y hy))) hf.keeps, hf⟩
theorem new_rep {w w' : World} {h : Heap} (hh : HRep w h) {T : TypeId} {v : Value} {l : List Int} (hr : w'.ownsRow w.heap.size T 1 v l.length (l.map (Value.int .i64))) :
    Rep w' h.dom (.ro (l.map (AV.int .i64)) l.length) v := by
  obtain ⟨h1, h2⟩ := hr
  rcases h2 with ⟨rfl, h3⟩ | ⟨g, cap, cur, rfl, h4, h5, h6, _, h7, h8⟩
  · have : l = [] := List.eq_nil_of_length_eq_zero h3
    subst this
    exact .roe none 0
  · have hn : h g = none := by
      cases e : h g with
      | none => rfl
      | some y => have := own_lt (hh g y e); omega
    refine .ro _ _ cap g 0 (fun i => .int .i64 (l.getD i 0)) h6 (Array.getElem?_eq_some_iff.1 h5).1 (fun hd => hd hn) (fun i x hx => ?_) (fun i x hx => ?_)
    · refine ⟨?_, rfl⟩
      rw [List.getElem?_map] at hx
      obtain ⟨n, hn', rfl⟩ := Option.map_eq_some_iff.1 hx
      have hi : i < l.length := (List.getElem?_eq_some_iff.1 hn').1
      have e := congrArg (fun l : List Value => l[i]?) h8
      simp only [List.getElem?_take, List.getElem?_map, hn', Option.map_some] at e
      rw [if_pos (by omega)] at e
      simp only [World.cell?, h5, Nat.zero_add]
      rw [show cur[i]? = some (Value.int .i64 n) by simpa using e]
      simp [List.getD_eq_getElem?_getD, hn']
    · rw [List.getElem?_map] at hx
      obtain ⟨n, hn', rfl⟩ := Option.map_eq_some_iff.1 hx
      simp only [List.getD_eq_getElem?_getD, hn', Option.getD_some]
      exact .int _ _
theorem ms_asc {l m : List Int} (hp : l.Perm m) (hn : m.Nodup) : ascL (l.mergeSort fun x y => decide (x ≤ y)) ∧ ∀ x, x ∈ l.mergeSort (fun x y => decide (x ≤ y)) ↔ x ∈ m := by
  have h1 := List.pairwise_mergeSort (le := fun x y : Int => decide (x ≤ y)) (fun a b c h1 h2 => by simp only [decide_eq_true_eq] at *; omega) (fun a b => by simp only [Bool.or_eq_true, decide_eq_true_eq]; omega) l
  have hpp := (List.mergeSort_perm l fun x y => decide (x ≤ y)).trans hp
  have h2 : (l.mergeSort fun x y => decide (x ≤ y)).Nodup := hpp.symm.nodup hn
  refine ⟨?_, fun x => hpp.mem_iff⟩
  refine (h1.and h2).imp ?_
  rintro a b ⟨h3, h4⟩
  simp only [decide_eq_true_eq] at h3
  omega
open Go.Maps in
theorem MpI.hasK {H : Type} {P : Program} {k : TypeId} (hk : P.underlying k = some (.int .i64)) {es : Array MapEntry} {t : Nat} {m : List (Int × Value)} (hm : MpI es t m) (n : Int) :
    has (dOf (H := H) P k es) (.int .i64 n) = true ↔ n ∈ m.map (·.1) := by
  rw [← (hm.dkeys (H := H) hk).mem_iff]
  have hall : ∀ p ∈ (es.toList.map (WideElems.rg (H := H) P k R0)).foldr DataW.insert [], p.1 = .int .i64 (numOf p.1) := by
    intro p hp
    rw [(WideShapes.sorted_perm _).mem_iff] at hp
    obtain ⟨x, hx, rfl⟩ := List.mem_map.1 hp
    obtain ⟨a, _, _, e⟩ := hm.rdd (H := H) hk x hx
    rw [WideElems.rg_of e]; rfl
  unfold dOf
  rw [has_eq, List.any_eq_true]
  constructor
  · rintro ⟨p, hp, e⟩
    have e' := (WideAt.sameKey_iff (show WideAt.IsKeyLit (.int .i64 n) from trivial)).1 e
    exact List.mem_map.2 ⟨p, hp, by rw [e']; rfl⟩
  · intro h
    obtain ⟨p, hp, e⟩ := List.mem_map.1 h
    refine ⟨p, hp, ?_⟩
    rw [hall p hp]
    rw [e]
    exact WideAt.sameKey_self (show WideAt.IsKeyLit (.int .i64 n) from trivial)
open Go.Maps in
/-- What the library's copy of a map into another one leaves: the keys of both. -/
theorem copy_rep {H : Type} {P : Program} {k : TypeId} (hk : P.underlying k = some (.int .i64)) {w w' : World} {h : Heap} (hh : HRep w h) {d : Nat} {es es2 : Array MapEntry} {t t2 : Nat} {m m2 : List (Int × Value)}
    (hd : h d = some ⟨[.raw (.map es t)], 0⟩) (hm : MpI es t m) (hm2 : MpI es2 t2 m2) {N : Nat} (ho : w'.ownsMap (H := H) P k R0 d N (Lib.mergeD (dOf P k es) (dOf P k es2))) (hg : w.grownBy w' (some d)) :
    ∃ es' t' m', HRep w' (upd h d ⟨[.raw (.map es' t')], 0⟩) ∧ Fr w h w' (upd h d ⟨[.raw (.map es' t')], 0⟩) ∧ MpI es' t' m' ∧ ∀ x, x ∈ m'.map (·.1) ↔ x ∈ m.map (·.1) ∨ x ∈ m2.map (·.1) := by
  obtain ⟨es', t', hb', F, _, hD⟩ := ho
  obtain ⟨m', hm'⟩ := MpI.of_fit hk F
  have hwd := (hh.obj hd).1
  have hcel : ∀ b, isC w b → isC w' b := by
    rintro b ⟨c, ty, f, e⟩
    have hne : b ≠ d := by rintro rfl; rw [hwd] at e; cases e
    exact ⟨c, ty, f, (hg.block b (Array.getElem?_eq_some_iff.1 e).1 (fun e' => hne (Option.some.inj e'))).trans e⟩
  have hf : Fr w h w' (upd h d ⟨[.raw (.map es' t')], 0⟩) := ⟨hg.size, fun b hl hn => by
    have hne : b ≠ d := by rintro rfl; rw [hd] at hn; cases hn
    exact ⟨by simp [upd, hne, hn], hg.block b hl (fun e' => hne (Option.some.inj e'))⟩, hcel, hg.os, hg.tape, hg.output⟩
  refine ⟨es', t', m', fun b y hy => ?_, hf, hm', fun x => ?_⟩
  · unfold upd at hy
    split at hy
    · rename_i e
      cases hy
      subst e
      exact .inr ⟨_, rfl, rfl, hb'⟩
    · rename_i e
      exact own_keep (hh b y hy) (hg.block b (own_lt (hh b y hy)) (fun e' => e (Option.some.inj e'))) hf.keeps
  · have h1 : has (dOf (H := H) P k es') (.int .i64 x) = (has (dOf (H := H) P k es) (.int .i64 x) || has (dOf (H := H) P k es2) (.int .i64 x)) := by
      rw [show dOf (H := H) P k es' = Lib.mergeD (dOf P k es) (dOf P k es2) from hD.symm]
      unfold Lib.mergeD
      conv => lhs; unfold dOf
      simp only
      rw [has_foldPut _ _ _ ⟨_, rfl⟩ ?_]
      · rfl
      · intro p hp
        rw [(WideShapes.sorted_perm _).mem_iff] at hp
        obtain ⟨y, hy, rfl⟩ := List.mem_map.1 hp
        obtain ⟨a, _, _, e⟩ := hm2.rdd (H := H) hk y hy
        rw [WideElems.rg_of e]; trivial
    rw [← hm'.hasK (H := H) hk, ← hm.hasK (H := H) hk, ← hm2.hasK (H := H) hk, h1, Bool.or_eq_true]
end Go.Ab
