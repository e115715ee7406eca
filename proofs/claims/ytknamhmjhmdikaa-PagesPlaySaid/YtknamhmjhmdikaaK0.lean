/- slices.Sorted(maps.Keys(m)) and maps.Copy, from the library's contracts. -/
import Derived.Test.YtknamhmjhmdikaaSl
import Derived.Test.YtknamhmjhmdikaaMr
import Derived.Test.YtknamhmjhmdikaaPx
import Derived.Test.YtknamhmjhmdikaaC36
set_option maxRecDepth 10000
namespace Go.Ab
open Go.Proofs Go.Shelf
variable {G : Glo} {h : Heap}
/-- A row of numbers. -/
abbrev zr (l : List Int) : AV := .ro (l.map (AV.int .i64)) l.length
theorem sortsA (m : Nat) : AnyZI.SortsIn Try.prog SortedA_ren Fence.wide m :=
  ⟨fun blk off cap ss W hH hblk hsz => callsIn_wide.2 (AnyM.slices_Sort_int SortA blk off cap ss W hH hblk hsz),
   fun p cap W => callsIn_wide.2 (AnyM.slices_Sort_int_none SortA p cap W)⟩
/-- Rising keys. -/
def SrtQ (h : Heap) (f : Int → Prop) (r : AV) (h' : Heap) : Prop := ∃ ss, r = zr ss ∧ h' = h ∧ ascL ss ∧ ∀ x, x ∈ ss ↔ f x
theorem sorted_of {ρ : Ren} (L : SlLaysZI.n7 Try.prog ρ) {b c : Nat} {es : Array MapEntry} {t : Nat} {m : List (Int × Value)} (hb : h b = some ⟨[.mpp (some c)], 0⟩) (hc : h c = some (mpB es t)) (hm : MpI es t m) (hl : m.length ≤ 1000000) :
    Spec Try.prog G 28 [.fn (ρ.f 10) [] [.ptr b 0]] h (SrtQ h fun x => x ∈ m.map (·.1)) := by
  intro w vs hh hg hr
  obtain ⟨v0, rfl⟩ : ∃ v0, vs = [v0] := by
    match vs, hr.1 with
    | [v], _ => exact ⟨v, rfl⟩
  have h0 := hr.2 0 _ _ rfl rfl
  obtain ⟨us, cs, rfl, ha, hcs⟩ := rep_fn h0
  obtain ⟨p, hp⟩ : ∃ p, cs = #[p] := by
    match cs, hcs.1 with
    | ⟨[p]⟩, _ => exact ⟨p, rfl⟩
  subst hp
  obtain rfl : us = #[] := by
    match us, ha.1 with
    | ⟨[]⟩, _ => rfl
  have hpr := hcs.2 0 _ _ rfl rfl
  have hpC := rep_ptrC hpr
  have hpe := rep_ptr hpr
  subst hpe
  obtain ⟨cv, e1, _, e3⟩ := (hh.at hb hpC) 0 _ rfl
  rw [rep_mpp e3] at e1
  have hbl : b < w.heap.size := own_lt (hh b _ hb)
  have hmx : (1000000 : Nat) ≤ maxLen := by decide
  have hown := hm.owns (H := Unit) (P := Try.prog) L.t26 (Nat.le_trans hl hmx) (hh.obj hc).1
  have hseq := AnyZI.keys_gives (ρ := ρ) { L with } Fence.wide 2 trivial rfl (by omega) b c m.length _ w hbl e1 hown
  have hsz : Maps.size (dOf (H := Unit) Try.prog (ρ.t 26) es) = m.length := by
    have := (hm.dkeys (H := Unit) (P := Try.prog) L.t26).length_eq
    simpa [dOf, Maps.size] using this
  have cS := AnyZI.sorted_in SortedA Fence.wide 5 trivial trivial trivial trivial rfl (by omega) (sortsA _) (enters_of Try.func33 (by kernel_rfl) rfl) (ρ.f 10) #[.pointer (some ⟨b, 0, none⟩)] trivial (L.f10.enters rfl) _ _ (by rw [hsz]; exact Nat.le_trans hl hmx) (by rw [hsz]; omega) _ hseq
  refine (callsIn_wide.1 cS).mono ?_
  rintro e w' ⟨v, ss, rfl, hS, hrow, hnil, hbel⟩
  obtain ⟨k1, k2⟩ := below_keeps hh hbel
  have hk := hm.dkeys (H := Unit) (P := Try.prog) L.t26
  have hperm : ss.Perm (m.map (·.1)) := hS.trans hk
  obtain ⟨q1, q2⟩ := ms_asc hperm hm.nd
  have hlen : ss.length = (ss.mergeSort fun x y => decide (x ≤ y)).length := (List.length_mergeSort ss).symm
  rw [hlen] at hrow
  exact ⟨v, _, h, rfl, ⟨_, rfl, rfl, q1, q2⟩, k1, new_rep hh hrow, k2⟩
theorem sorted_nil {ρ : Ren} (L : SlLaysZI.n7 Try.prog ρ) {b : Nat} (hb : h b = some ⟨[.mpp none], 0⟩) :
    Spec Try.prog G 28 [.fn (ρ.f 10) [] [.ptr b 0]] h (SrtQ h fun _ => False) := by
  intro w vs hh hg hr
  obtain ⟨v0, rfl⟩ : ∃ v0, vs = [v0] := by
    match vs, hr.1 with
    | [v], _ => exact ⟨v, rfl⟩
  have h0 := hr.2 0 _ _ rfl rfl
  obtain ⟨us, cs, rfl, ha, hcs⟩ := rep_fn h0
  obtain ⟨p, hp⟩ : ∃ p, cs = #[p] := by
    match cs, hcs.1 with
    | ⟨[p]⟩, _ => exact ⟨p, rfl⟩
  subst hp
  obtain rfl : us = #[] := by
    match us, ha.1 with
    | ⟨[]⟩, _ => rfl
  have hpr := hcs.2 0 _ _ rfl rfl
  have hpC := rep_ptrC hpr
  have hpe := rep_ptr hpr
  subst hpe
  obtain ⟨cv, e1, _, e3⟩ := (hh.at hb hpC) 0 _ rfl
  rw [rep_mpp e3] at e1
  have hbl : b < w.heap.size := own_lt (hh b _ hb)
  have hseq := AnyZI.keys_gives_nil (ρ := ρ) { L with } Fence.wide 2 trivial rfl b w hbl e1
  have cS := AnyZI.sorted_in SortedA Fence.wide 5 trivial trivial trivial trivial rfl (by omega) (sortsA _) (enters_of Try.func33 (by kernel_rfl) rfl) (ρ.f 10) #[.pointer (some ⟨b, 0, none⟩)] trivial (L.f10.enters rfl) _ 0 (Nat.zero_le _) (by omega) _ hseq
  refine (callsIn_wide.1 cS).mono ?_
  rintro e w' ⟨v, ss, rfl, hS, hrow, hnil, hbel⟩
  obtain ⟨k1, k2⟩ := below_keeps hh hbel
  have hS' : ss = [] := hS
  subst hS'
  exact ⟨v, _, h, rfl, ⟨[], rfl, rfl, by simp [ascL], by simp⟩, k1, new_rep hh (l := []) (by simpa using hrow), k2⟩
theorem copy_spec {d c : Nat} {es es2 : Array MapEntry} {t t2 : Nat} {m m2 : List (Int × Value)} (hd : h d = some (mpB es t)) (hc : h c = some (mpB es2 t2)) (hm : MpI es t m) (hm2 : MpI es2 t2 m2) (hdc : d ≠ c) (hl : m.length ≤ 1000000) (hl2 : m2.length ≤ 1000000) :
    Spec Try.prog G 30 [.mpp (some d), .mpp (some c)] h (fun r h' => r = .tup [] ∧ ∃ es' t' m', h' = Ab.upd h d (mpB es' t') ∧ MpI es' t' m' ∧ ∀ x, x ∈ m'.map (·.1) ↔ x ∈ m.map (·.1) ∨ x ∈ m2.map (·.1)) := by
  intro w vs hh hg hr
  obtain ⟨v0, v1, rfl⟩ : ∃ v0 v1, vs = [v0, v1] := by
    match vs, hr.1 with
    | [u, v], _ => exact ⟨u, v, rfl⟩
  have e0 := rep_mpp (hr.2 0 _ _ rfl rfl)
  have e1 := rep_mpp (hr.2 1 _ _ rfl rfl)
  subst e0
  subst e1
  have hmx : (1000000 : Nat) + 1000000 ≤ maxLen := by decide
  have L := CopyA
  have hk : (Try.prog).underlying (CopyA_ren.t 26) = some (.int .i64) := by kernel_rfl
  have o1 := hm.owns (H := Unit) (P := Try.prog) hk (by omega) (hh.obj hd).1
  have o2 := hm2.owns (H := Unit) (P := Try.prog) hk (by omega) (hh.obj hc).1
  have hsz : Maps.size (dOf (H := Unit) Try.prog (CopyA_ren.t 26) es2) = m2.length := by
    have := (hm2.dkeys (H := Unit) (P := Try.prog) hk).length_eq
    simpa [dOf, Maps.size] using this
  refine (AnyX.maps_Copy L (Maps.int_keyed hk) R0 d c m.length m2.length _ _ w o1 o2 hdc (by rw [hsz]; omega)).mono ?_
  rintro e w' ⟨rfl, q1, q2, q3⟩
  obtain ⟨es', t', m', k1, k2, k3, k4⟩ := copy_rep (H := Unit) (P := Try.prog) hk hh hd hm hm2 q1 q3
  exact ⟨_, _, _, rfl, ⟨rfl, es', t', m', rfl, k3, k4⟩, k1, .tup [] #[] rfl (fun i v c h => by simp at h), k2⟩
end Go.Ab
