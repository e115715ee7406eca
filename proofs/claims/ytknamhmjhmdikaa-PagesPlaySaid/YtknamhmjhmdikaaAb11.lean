/- A frame for walks over what values stand for, part Ab11. -/
import Derived.Test.YtknamhmjhmdikaaLib2
import Derived.ProofKit
import Derived.OpenShut
import Derived.ShutString
import Derived.ChangeOld
import Derived.Below
namespace Go.Ab
open Go.ChangeShapes Go.WideShapes Go.ChangeAt Go.RowKit
/-! From what a row reads to what is known. -/
inductive TD where
  | b
  | i (k : IntKind)
  | s
  | sl (e : TD)
  | st (fs : List TD)
  | ar (n : Nat) (e : TD)
  deriving Inhabited
def tdFields (P : Program) (rec : TypeId → Option TD) : Nat → List Field → Option (List TD)
  | _, [] => some []
  | n, f :: r => match rec f.type with
    | some td => if f.offset = n then (tdFields P rec (n + P.cellsOf f.type) r).map (td :: ·) else none
    | none => none
def tdOf (P : Program) : Nat → TypeId → Option TD
  | 0, _ => none
  | d + 1, t => match P.underlying t with
    | some .bool => some .b
    | some (.int k) => some (.i k)
    | some .string => some .s
    | some (.slice e) => if 0 < P.cellsOf e then (tdOf P d e).map .sl else none
    | some (.struct fs) => match tdFields P (tdOf P d) 0 fs.toList with
      | some l => if (fs.toList.map fun f => P.cellsOf f.type).sum = P.cellsOf t then some (.st l) else none
      | none => none
    | some (.array n e) => if n * P.cellsOf e = P.cellsOf t then (tdOf P d e).map (.ar n) else none
    | _ => none
inductive Dat : TD → List AV → Prop
  | b (x : Bool) : Dat .b [.bool x]
  | i (k : IntKind) (n : Int) (h : k.min ≤ n ∧ n ≤ k.max) : Dat (.i k) [.int k n]
  | s (x : ByteArray) (h : x.size ≤ maxLen) : Dat .s [.str x]
  | sl (e : TD) (ls : List (List AV)) (hl : ls.length ≤ maxLen) (h : ∀ l ∈ ls, Dat e l) : Dat (.sl e) [.ro ls.flatten ls.length]
  | st (fs : List TD) (ls : List (List AV)) (hl : ls.length = fs.length) (h : ∀ (j : Nat) f l, fs[j]? = some f → ls[j]? = some l → Dat f l) : Dat (.st fs) ls.flatten
  | ar (n : Nat) (e : TD) (ls : List (List AV)) (hl : ls.length = n) (h : ∀ l ∈ ls, Dat e l) : Dat (.ar n e) ls.flatten
def NoO : Nat → Prop := fun _ => False
section
variable {P : Program} {w : World} {H : Type} {enc : TypeId × Value → H} {base : Nat} {spare : Nat → Bool} {held : Bool}
theorem mapM_some {α β : Type} {f : α → Option β} {l : List α} {m : List β} (h : l.mapM f = some m) : l.length = m.length ∧ ∀ (i : Nat) x, l[i]? = some x → ∃ y, m[i]? = some y ∧ f x = some y := mapM_get h
theorem RepL.flatten {O : Nat → Prop} : ∀ (as : List (List AV)) (vs : List (List Value)), as.length = vs.length → (∀ (i : Nat) a v, as[i]? = some a → vs[i]? = some v → RepL w O a v) → RepL w O as.flatten vs.flatten := by
  intro as
  induction as with
  | nil => intro vs hl _; cases vs with
    | nil => exact .nil
    | cons _ _ => simp at hl
  | cons a r ih =>
    intro vs hl h
    cases vs with
    | nil => simp at hl
    | cons v s =>
      simp only [List.flatten_cons]
      exact (h 0 a v rfl rfl).append (ih s (by simpa using hl) fun i a v h1 h2 => h (i + 1) a v (by simpa using h1) (by simpa using h2))
/-- The first cells, the next ones, and so on: all of them. -/
theorem split_cells (n z : Nat) (cs : List Value) (h : cs.length = n * z) : ((List.range n).map fun i => (cs.drop (i * z)).take z).flatten = cs := by
  induction n generalizing cs with
  | zero => simp at h; subst h; simp
  | succ n ih =>
    rw [List.range_succ_eq_map, List.map_cons, List.map_map, List.flatten_cons]
    have hd : (cs.drop z).length = n * z := by simp [h, Nat.succ_mul]
    have := ih (cs.drop z) hd
    have hf : ((fun i => (cs.drop (i * z)).take z) ∘ Nat.succ) = fun i => ((cs.drop z).drop (i * z)).take z := by
      funext i
      simp [List.drop_drop, Nat.succ_mul, Nat.add_comm]
    rw [hf, this]
    simp
theorem split_fields : ∀ (fs : List Field) (n : Nat) (cs : List Value), (∀ (j : Nat) f, fs[j]? = some f → f.offset = n + ((fs.take j).map fun f => P.cellsOf f.type).sum) → cs.length = n + (fs.map fun f => P.cellsOf f.type).sum →
    (fs.map fun f => (cs.drop f.offset).take (P.cellsOf f.type)).flatten = cs.drop n := by
  intro fs
  induction fs with
  | nil => intro n cs _ hl; simp at hl; simp [← hl]
  | cons f r ih =>
    intro n cs ho hl
    have h0 := ho 0 f rfl
    simp at h0
    simp only [List.map_cons, List.sum_cons] at hl
    have := ih (n + P.cellsOf f.type) cs (fun j g hg => by
      have := ho (j + 1) g (by simpa using hg)
      simp only [List.take_succ_cons, List.map_cons, List.sum_cons] at this
      omega) (by omega)
    rw [List.map_cons, List.flatten_cons, this, h0, ← List.drop_drop, List.take_append_drop]
theorem tdFields_get {rec : TypeId → Option TD} : ∀ (fs : List Field) (n : Nat) (l : List TD), tdFields P rec n fs = some l →
    l.length = fs.length ∧ (∀ (j : Nat) f, fs[j]? = some f → f.offset = n + ((fs.take j).map fun f => P.cellsOf f.type).sum ∧ ∃ td, l[j]? = some td ∧ rec f.type = some td) := by
  intro fs
  induction fs with
  | nil => intro n l h; simp [tdFields] at h; subst h; exact ⟨rfl, fun j f h => by simp at h⟩
  | cons f r ih =>
    intro n l h
    simp only [tdFields] at h
    split at h
    · rename_i td htd
      split at h
      · rename_i ho
        obtain ⟨m, hm, rfl⟩ := Option.map_eq_some_iff.1 h
        obtain ⟨i1, i2⟩ := ih _ _ hm
        refine ⟨by simp [i1], fun j g hg => ?_⟩
        cases j with
        | zero => simp at hg; subst hg; exact ⟨by simp [ho], td, rfl, htd⟩
        | succ j =>
          obtain ⟨k1, k2⟩ := i2 j g (by simpa using hg)
          refine ⟨by rw [k1]; simp; omega, ?_⟩
          simpa using k2
      · cases h
    · cases h
theorem cells_at {a : Addr} {n : Nat} {cs : List Value} (h : w.cells? base a n = some cs) : cs.length = n ∧ ∀ i v, cs[i]? = some v → w.cell? (a.add i) = some v := by
  unfold World.cells? at h
  split at h
  · obtain ⟨h1, h2⟩ := mapM_some h
    simp at h1
    refine ⟨h1.symm, fun i v hv => ?_⟩
    have hlt : i < n := by rw [h1]; exact (List.getElem?_eq_some_iff.1 hv).1
    obtain ⟨y, hy, hy'⟩ := h2 i i (by simp [hlt])
    rw [hy] at hv
    cases hv
    exact hy'
  · cases h
theorem dat_of : ∀ (fuel : Nat) (t : TypeId) (cs : List Value) (x : DataW H × List MemPlace), DataW.trod enc P w base spare held fuel t cs = some x → ∀ (d : Nat) (td : TD), tdOf P d t = some td →
    ∃ avs, Dat td avs ∧ RepL w NoO avs cs ∧ (∀ c ∈ cs, c.oneCell' = true) := by
  intro fuel
  induction fuel with
  | zero => intro t cs x h; simp [DataW.trod] at h
  | succ fuel ih =>
    intro t cs x h d td htd
    cases d with
    | zero => simp [tdOf] at htd
    | succ d =>
      cases hu : P.underlying t with
      | none => simp [tdOf, hu] at htd
      | some u =>
        cases u <;> simp only [tdOf, hu] at htd <;> (try (simp at htd; done))
        case bool =>
          cases htd
          simp only [DataW.trod, hu] at h
          split at h <;> (try (cases h; done)) <;> rename_i h1 <;> (try (cases h1; done))
          exact ⟨_, .b _, RepL.nil.cons (.bool _), by simp [Value.oneCell']⟩
        case int k =>
          cases htd
          simp only [DataW.trod, hu] at h
          split at h <;> (try (cases h; done)) <;> rename_i h1 <;> (try (cases h1; done))
          cases h1
          split at h
          · rename_i hk
            obtain ⟨rfl, hk2⟩ := hk
            simp [Lit.wf] at hk2
            exact ⟨_, .i _ _ hk2, RepL.nil.cons (.int _ _), by simp [Value.oneCell']⟩
          · cases h
        case string =>
          cases htd
          simp only [DataW.trod, hu] at h
          split at h <;> (try (cases h; done)) <;> rename_i h1 <;> (try (cases h1; done))
          split at h
          · rename_i hl
            exact ⟨_, .s _ hl, RepL.nil.cons (.str _), by simp [Value.oneCell']⟩
          · cases h
        case slice e =>
          split at htd
          · rename_i hz
            obtain ⟨te, hte, rfl⟩ := Option.map_eq_some_iff.1 htd
            simp only [DataW.trod, hu] at h
            split at h <;> (try (cases h; done)) <;> rename_i h1 <;> (try (cases h1; done))
            · exact ⟨_, .sl te [] (by simp) (by simp), RepL.nil.cons (.roe none 0), by simp [Value.oneCell']⟩
            · rename_i a len cap
              cases h1
              split at h
              · rename_i hc
                simp only [Option.bind_eq_some_iff] at h
                obtain ⟨elems, hel, hx2⟩ := h
                obtain ⟨e1, e2⟩ := mapM_some hel
                simp at e1
                -- the elements, one by one
                have key : ∀ i, i < len → ∃ (cs : List Value) (avs : List AV), w.cells? base (a.add (i * P.cellsOf e)) (P.cellsOf e) = some cs ∧ Dat te avs ∧ RepL w NoO avs cs ∧ (∀ c ∈ cs, c.oneCell' = true) := by
                  intro i hi
                  obtain ⟨y, _, hy⟩ := e2 i i (by simp [hi])
                  simp only [Option.bind_eq_some_iff] at hy
                  obtain ⟨cs, h1, h2⟩ := hy
                  obtain ⟨avs, h3, h4, h5⟩ := ih e cs y h2 d te hte
                  exact ⟨cs, avs, h1, h3, h4, h5⟩
                have kall : ∃ ls : List (List AV), ls.length = len ∧ ∀ (i : Nat) l, ls[i]? = some l → ∃ cs, w.cells? base (a.add (i * P.cellsOf e)) (P.cellsOf e) = some cs ∧ Dat te l ∧ RepL w NoO l cs ∧ (∀ c ∈ cs, c.oneCell' = true) := by
                  clear e1 e2 hel hc hx2
                  induction len with
                  | zero => exact ⟨[], rfl, fun i l h => by simp at h⟩
                  | succ n ihn =>
                    obtain ⟨ls, l1, l2⟩ := ihn fun i hi => key i (by omega)
                    obtain ⟨cs, avs, k1, k2, k3, k4⟩ := key n (by omega)
                    refine ⟨ls ++ [avs], by simp [l1], fun i l hl => ?_⟩
                    by_cases hi : i < ls.length
                    · rw [List.getElem?_append_left hi] at hl
                      exact l2 i l hl
                    · rw [List.getElem?_append_right (by omega)] at hl
                      have : i = n := by
                        have := (List.getElem?_eq_some_iff.1 hl).1
                        simp at this; omega
                      subst this
                      rw [l1] at hl
                      simp at hl
                      subst hl
                      exact ⟨cs, k1, k2, k3, k4⟩
                obtain ⟨ls, l1, l2⟩ := kall
                have hdat : Dat (.sl te) [.ro ls.flatten ls.length] := .sl te ls (by omega) fun l hl => by
                  obtain ⟨i, hi⟩ := List.mem_iff_getElem?.1 hl
                  obtain ⟨cs, _, k2, _⟩ := l2 i l hi
                  exact k2
                refine ⟨_, hdat, RepL.nil.cons ?_, by simp [Value.oneCell']⟩
                rw [l1]
                by_cases h0 : len = 0
                · subst h0
                  rw [List.eq_nil_of_length_eq_zero l1]
                  exact .roe _ _
                · -- the row
                  have hspot : a.spot = none := by
                    obtain ⟨cs, avs, k1, k2, k3, k4⟩ := key 0 (by omega)
                    obtain ⟨q1, q2⟩ := cells_at k1
                    have hc0 := q2 0 _ (List.getElem?_eq_getElem (by omega))
                    simp only [Nat.zero_mul] at hc0
                    have : (a.add 0).add 0 = a := by simp [Addr.add]
                    rw [this] at hc0
                    exact World.cell?_spot hc0
                  obtain ⟨b, o, sp⟩ := a
                  simp only at hspot
                  subst hspot
                  have hlens : ∀ (i : Nat) l, ls[i]? = some l → l.length = P.cellsOf e := by
                    intro i l hl
                    obtain ⟨cs, k1, _, k3, _⟩ := l2 i l hl
                    rw [k3.1]; exact (cells_at k1).1
                  have hcell : ∀ (j : Nat) v, ls.flatten[j]? = some v → ∃ c, w.cell? ⟨b, o + j, none⟩ = some c ∧ c.oneCell' = true ∧ Rep w NoO v c := by
                    have gen : ∀ (m : Nat) (ms : List (List AV)), (∀ (i : Nat) l, ms[i]? = some l → ls[m + i]? = some l) → ∀ (j : Nat) v, ms.flatten[j]? = some v → ∃ c, w.cell? ⟨b, o + (m * P.cellsOf e + j), none⟩ = some c ∧ c.oneCell' = true ∧ Rep w NoO v c := by
                      intro m ms
                      induction ms generalizing m with
                      | nil => intro _ j v hv; simp at hv
                      | cons l r ihr =>
                        intro hm j v hv
                        have hl := hm 0 l rfl
                        simp only [Nat.add_zero] at hl
                        obtain ⟨cs, k1, k2, k3, k4⟩ := l2 m l hl
                        obtain ⟨q1, q2⟩ := cells_at k1
                        have hll := hlens m l hl
                        rw [List.flatten_cons] at hv
                        by_cases hj : j < l.length
                        · rw [List.getElem?_append_left hj] at hv
                          have hcs : cs[j]? = some (cs[j]'(by omega)) := List.getElem?_eq_getElem _
                          have := q2 j _ hcs
                          rw [Addr.add_lit, Addr.add_lit] at this
                          exact ⟨_, by rw [← Nat.add_assoc]; exact this, k4 _ (List.getElem_mem _), k3.2 j v _ hv hcs⟩
                        · rw [List.getElem?_append_right (by omega)] at hv
                          obtain ⟨c, z1, z2, z3⟩ := ihr (m + 1) (fun i l hl => by
                            have := hm (i + 1) l (by simpa using hl)
                            rwa [show m + 1 + i = m + (i + 1) by omega]) (j - l.length) v hv
                          refine ⟨c, ?_, z2, z3⟩
                          rw [show m * P.cellsOf e + j = (m + 1) * P.cellsOf e + (j - l.length) by rw [Nat.succ_mul]; omega]
                          exact z1
                    intro j v hv
                    have := gen 0 ls (fun i l hl => by rwa [Nat.zero_add]) j v hv
                    simpa using this
                  have hb : b < w.heap.size := by
                    obtain ⟨cs, avs, k1, k2, k3, k4⟩ := key 0 (by omega)
                    obtain ⟨q1, q2⟩ := cells_at k1
                    have hc0 := q2 0 _ (List.getElem?_eq_getElem (by omega))
                    simp only [Nat.zero_mul, Addr.add_lit] at hc0
                    unfold World.cell? at hc0
                    cases hbb : w.heap[b]? with
                    | none => simp [hbb] at hc0
                    | some y => exact (Array.getElem?_eq_some_iff.1 hbb).1
                  refine .ro _ _ _ b o (fun j => (w.cell? ⟨b, o + j, none⟩).getD undef) hc.2.1 hb (fun h => h) (fun j v hv => ?_) (fun j v hv => ?_)
                  · obtain ⟨c, z1, z2, _⟩ := hcell j v hv
                    rw [z1]; exact ⟨rfl, z2⟩
                  · obtain ⟨c, z1, _, z3⟩ := hcell j v hv
                    rw [z1]; exact z3
              · cases h
          · cases htd
        case struct fs =>
          split at htd
          · rename_i l hl
            split at htd
            · rename_i hsum
              cases htd
              simp only [DataW.trod, hu] at h
              split at h
              · rename_i hlen
                obtain ⟨xs, hxs, _⟩ := Option.map_eq_some_iff.1 h
                obtain ⟨e1, e2⟩ := mapM_some hxs
                obtain ⟨f1, f2⟩ := tdFields_get fs.toList 0 l hl
                have key : ∀ (j : Nat) f, fs.toList[j]? = some f → ∃ td avs, l[j]? = some td ∧ Dat td avs ∧ RepL w NoO avs ((cs.drop f.offset).take (P.cellsOf f.type)) ∧ (∀ c ∈ (cs.drop f.offset).take (P.cellsOf f.type), c.oneCell' = true) := by
                  intro j f hf
                  obtain ⟨y, _, hy⟩ := e2 j f hf
                  obtain ⟨_, td, k1, k2⟩ := f2 j f hf
                  obtain ⟨avs, h3, h4, h5⟩ := ih f.type _ y hy d td k2
                  exact ⟨td, avs, k1, h3, h4, h5⟩
                have kall : ∃ ls : List (List AV), ls.length = fs.toList.length ∧ ∀ (j : Nat) f a, fs.toList[j]? = some f → ls[j]? = some a → ∃ td, l[j]? = some td ∧ Dat td a ∧ RepL w NoO a ((cs.drop f.offset).take (P.cellsOf f.type)) := by
                  clear e1 e2 hxs h f1 f2 hl hlen hsum
                  generalize fs.toList = F at key
                  induction F generalizing l with
                  | nil => exact ⟨[], rfl, fun j f a h => by simp at h⟩
                  | cons g r ihF =>
                    obtain ⟨td, avs, k1, k2, k3, _⟩ := key 0 g rfl
                    cases l with
                    | nil => simp at k1
                    | cons l0 lr =>
                      obtain ⟨ls, m1, m2⟩ := ihF lr fun j f hf => by
                        obtain ⟨td, avs, z1, z2⟩ := key (j + 1) f (by simpa using hf)
                        exact ⟨td, avs, by simpa using z1, z2⟩
                      refine ⟨avs :: ls, by simp [m1], fun j f a hf ha => ?_⟩
                      cases j with
                      | zero => simp at hf ha; subst hf; subst ha; exact ⟨td, k1, k2, k3⟩
                      | succ j =>
                        obtain ⟨td, z1, z2⟩ := m2 j f a (by simpa using hf) (by simpa using ha)
                        exact ⟨td, by simpa using z1, z2⟩
                obtain ⟨ls, m1, m2⟩ := kall
                have hsplit := split_fields (P := P) fs.toList 0 cs (fun j f hf => (f2 j f hf).1) (by rw [hlen, hsum]; simp)
                simp only [List.drop_zero] at hsplit
                have hrep : RepL w NoO ls.flatten cs := by
                  rw [← hsplit]
                  refine RepL.flatten _ _ (by simp [m1]) fun j a v ha hv => ?_
                  simp only [List.getElem?_map, Option.map_eq_some_iff] at hv
                  obtain ⟨f, hf, rfl⟩ := hv
                  obtain ⟨td, _, _, z3⟩ := m2 j f a hf ha
                  exact z3
                refine ⟨ls.flatten, .st l ls (by rw [m1, f1]) fun j td a htd ha => ?_, hrep, ?_⟩
                · have hlt : j < fs.toList.length := by rw [← m1]; exact (List.getElem?_eq_some_iff.1 ha).1
                  obtain ⟨td', z1, z2, _⟩ := m2 j _ a (List.getElem?_eq_getElem hlt) ha
                  rw [htd] at z1
                  cases z1
                  exact z2
                · intro c hc
                  rw [← hsplit] at hc
                  obtain ⟨m, hm, hcm⟩ := List.mem_flatten.1 hc
                  obtain ⟨f, hf, rfl⟩ := List.mem_map.1 hm
                  obtain ⟨j, hj⟩ := List.mem_iff_getElem?.1 hf
                  obtain ⟨_, _, _, _, _, k5⟩ := key j f hj
                  exact k5 c hcm
              · cases h
            · cases htd
          · cases htd
        case array n e =>
          split at htd
          · rename_i hsz
            obtain ⟨te, hte, rfl⟩ := Option.map_eq_some_iff.1 htd
            simp only [DataW.trod, hu] at h
            split at h
            · rename_i hlen
              obtain ⟨xs, hxs, _⟩ := Option.map_eq_some_iff.1 h
              obtain ⟨e1, e2⟩ := mapM_some hxs
              have key : ∀ i, i < n → ∃ avs, Dat te avs ∧ RepL w NoO avs ((cs.drop (i * P.cellsOf e)).take (P.cellsOf e)) ∧ (∀ c ∈ (cs.drop (i * P.cellsOf e)).take (P.cellsOf e), c.oneCell' = true) := by
                intro i hi
                obtain ⟨y, _, hy⟩ := e2 i i (by simp [hi])
                exact ih e _ y hy d te hte
              have kall : ∃ ls : List (List AV), ls.length = n ∧ ∀ (i : Nat) a, ls[i]? = some a → Dat te a ∧ RepL w NoO a ((cs.drop (i * P.cellsOf e)).take (P.cellsOf e)) := by
                clear e1 e2 hxs h hsz hlen htd hu
                induction n with
                | zero => exact ⟨[], rfl, fun i a h => by simp at h⟩
                | succ n ihn =>
                  obtain ⟨ls, l1, l2⟩ := ihn fun i hi => key i (by omega)
                  obtain ⟨avs, k1, k2, _⟩ := key n (by omega)
                  refine ⟨ls ++ [avs], by simp [l1], fun i a ha => ?_⟩
                  by_cases hi : i < ls.length
                  · rw [List.getElem?_append_left hi] at ha
                    exact l2 i a ha
                  · rw [List.getElem?_append_right (by omega)] at ha
                    have : i = n := by
                      have := (List.getElem?_eq_some_iff.1 ha).1
                      simp at this; omega
                    subst this
                    rw [l1] at ha
                    simp at ha
                    subst ha
                    exact ⟨k1, k2⟩
              obtain ⟨ls, l1, l2⟩ := kall
              have hsplit := split_cells n (P.cellsOf e) cs (by rw [hlen, hsz])
              have hrep : RepL w NoO ls.flatten cs := by
                rw [← hsplit]
                refine RepL.flatten _ _ (by simp [l1]) fun j a v ha hv => ?_
                have hlt : j < n := by rw [← l1]; exact (List.getElem?_eq_some_iff.1 ha).1
                simp only [List.getElem?_map, Option.map_eq_some_iff] at hv
                obtain ⟨i, hi, rfl⟩ := hv
                rw [List.getElem?_range hlt] at hi
                cases hi
                exact (l2 j a ha).2
              refine ⟨ls.flatten, .ar n te ls l1 fun a ha => ?_, hrep, ?_⟩
              · obtain ⟨i, hi⟩ := List.mem_iff_getElem?.1 ha
                exact (l2 i a hi).1
              · intro c hc
                rw [← hsplit] at hc
                obtain ⟨m, hm, hcm⟩ := List.mem_flatten.1 hc
                obtain ⟨i, hi, rfl⟩ := List.mem_map.1 hm
                obtain ⟨_, _, _, k5⟩ := key i (by simpa using hi)
                exact k5 c hcm
            · cases h
          · cases htd
def argOf (td : TD) (avs : List AV) : AV :=
  match td with
  | .st _ | .ar _ _ => .agg avs
  | _ => avs.headD .any
theorem arg_of {r : Go.Reach} {b0 : Nat} {t : TypeId} {v : Value} {x : DataW H} {ps : List MemPlace} (hv : Value.okWide P w r b0 t v) (h : DataW.Trod enc P w base spare held t v x ps) {d : Nat} {td : TD} (htd : tdOf P d t = some td) :
    ∃ avs, Dat td avs ∧ Rep w NoO (argOf td avs) v := by
  obtain ⟨fuel, hf⟩ := h
  obtain ⟨avs, h1, h2, h3⟩ := dat_of fuel t _ _ hf d td htd
  refine ⟨avs, h1, ?_⟩
  have one : (∃ a, avs = [a]) → v.cells.toList = [v] → (match td with | .st _ | .ar _ _ => False | _ => True) → Rep w NoO (argOf td avs) v := by
    rintro ⟨a, rfl⟩ hc ht
    rw [hc] at h2
    have hr := h2.2 0 a v rfl rfl
    cases td <;> first | exact hr | exact ht.elim
  have agg : (∃ cs, v = .agg cs) → argOf td avs = .agg avs → Rep w NoO (argOf td avs) v := by
    rintro ⟨cs, rfl⟩ he
    rw [he]
    have := h2.agg h3
    simpa [Value.cells] using this
  cases d with
  | zero => simp [tdOf] at htd
  | succ d =>
    cases hu : P.underlying t with
    | none => simp [tdOf, hu] at htd
    | some u =>
      cases u <;> simp only [tdOf, hu] at htd <;> (try (simp at htd; done))
      case bool =>
        cases htd
        simp only [Value.okWide, hu, Cell.okWide] at hv
        cases h1
        refine one ⟨_, rfl⟩ ?_ trivial
        cases v <;> simp_all [Cell.ok, Value.cells]
      case int k =>
        cases htd
        obtain ⟨n, rfl⟩ := okWide_int hu hv
        cases h1
        exact one ⟨_, rfl⟩ rfl trivial
      case string =>
        cases htd
        obtain ⟨n, rfl⟩ := okWide_string hu hv
        cases h1
        exact one ⟨_, rfl⟩ rfl trivial
      case slice e =>
        split at htd
        · obtain ⟨te, _, rfl⟩ := Option.map_eq_some_iff.1 htd
          obtain ⟨a, len, cap, rfl⟩ := okWide_slice hu hv
          cases h1
          exact one ⟨_, rfl⟩ rfl trivial
        · cases htd
      case struct fs =>
        split at htd
        · split at htd
          · cases htd
            simp only [Value.okWide, hu] at hv
            obtain ⟨cs, hc, _⟩ := hv
            exact agg ⟨cs, hc⟩ rfl
          · cases htd
        · cases htd
      case array n e =>
        split at htd
        · obtain ⟨te, _, rfl⟩ := Option.map_eq_some_iff.1 htd
          simp only [Value.okWide, hu] at hv
          obtain ⟨cs, hc, _⟩ := hv
          exact agg ⟨cs, hc⟩ rfl
        · cases htd
def noG : Glo := .of fun _ => .any
/-- A law that is proved for whatever it is given: it is called, answers true, and leaves all as it was. -/
theorem law_calls {f : FuncId} {args : List AV} {vs : List Value} (hs : Spec P noG f args noH (fun r _ => r = .bool true)) (hr : RepL w NoO args vs) :
    Calls P f vs.toArray w fun e w' => e = .returned (.bool true) ∧ Below w.heap.size w w' := by
  refine (hs w vs (fun b x h => by cases h) ⟨fun g => .any _, fun _ _ e => e.elim⟩ (by rw [noH_dom]; exact hr)).mono ?_
  rintro e w' ⟨v, r, h', rfl, rfl, _, h3, h4⟩
  refine ⟨by rw [rep_bool h3], ⟨h4.os, h4.tape, h4.out, h4.size, fun k hk => (h4.blk k hk rfl).2⟩⟩
end
end Go.Ab
