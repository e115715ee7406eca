/- The statement ScanGoesCardSaid: its row, from the contract of its function; its card, by the given tie. -/
import Derived.Test.YtknamhmjhmdikaaDoorSG3
import Derived.Shelf.SortM.Plain
import Derived.Shelf.SortM.SortNone
import Derived.Shelf.Slices.CompactI
import Derived.Test.YtknamhmjhmdikaaDoorProg
import Derived.ProofKit
import Derived.OpenShut
import Derived.ShutString
import Derived.ChangeOld
import Derived.Below
import Derived.Maps.Own
import Derived.Maps.Keyed
import Derived.Laws.AppendOwn
import Derived.Lib.SlKeysI
import Derived.Lib.SlMapMerge
import Derived.Sort.Row
import Derived.Sort.Grow
import Derived.Test.YtknamhmjhmdikaaDoorRows
import Derived.Lib.LaidTab
import Derived.MakeChecks
import Derived.LaidMore
import Derived.Test.YtknamhmjhmdikaaDoorTie
import Derived.Test.YtknamhmjhmdikaaDoorCards
import Derived.SevenTiedAt
import Derived.Stop.Joined
import Derived.WalkKit
set_option linter.unusedSimpArgs false
set_option linter.unusedVariables false
set_option maxRecDepth 10000
section
namespace Go.Ab
open Go.Proofs Go.Shelf
def SortA_ren : Go.Shelf.Ren := ⟨fun | 5 => 29 | 8 => 51 | 7 => 50 | 19 => 81 | 20 => 82 | 10 => 72 | 11 => 73 | 12 => 74 | 13 => 75 | 14 => 76 | 15 => 77 | 16 => 78 | 17 => 79 | 18 => 80 | 30 => 94 | 31 => 95 | 32 => 96 | 33 => 97 | 34 => 98 | 35 => 99 | 40 => 109 | n => n, fun | 23 => 51 | 25 => 3 | 3 => 3 | 32 => 94 | 22 => 51 | 0 => 0 | 44 => 36 | 46 => 122 | 4 => 4 | 36 => 114 | 35 => 113 | 41 => 119 | 5 => 5 | 9 => 9 | 53 => 128 | 57 => 132 | 63 => 137 | 64 => 138 | n => n, fun | n => n⟩
theorem SortA : Go.Proofs.SlLaysM.n5 Tryd.prog SortA_ren := {
 mixed := by kernel_rfl,
 f5 := ⟨Tryd.f29.name, by decide, Tryd.func29.trans (congrArg some (by kernel_rfl))⟩,
 f7 := ⟨Tryd.f50.name, by decide, Tryd.func50.trans (congrArg some (by kernel_rfl))⟩,
 f8 := Tryd.func51.trans (congrArg some (by kernel_rfl)),
 f10 := ⟨Tryd.f72.name, by decide, Tryd.func72.trans (congrArg some (by kernel_rfl))⟩,
 f11 := ⟨Tryd.f73.name, by decide, Tryd.func73.trans (congrArg some (by kernel_rfl))⟩,
 f12 := ⟨Tryd.f74.name, by decide, Tryd.func74.trans (congrArg some (by kernel_rfl))⟩,
 f13 := ⟨Tryd.f75.name, by decide, Tryd.func75.trans (congrArg some (by kernel_rfl))⟩,
 f14 := ⟨Tryd.f76.name, by decide, Tryd.func76.trans (congrArg some (by kernel_rfl))⟩,
 f15 := ⟨Tryd.f77.name, by decide, Tryd.func77.trans (congrArg some (by kernel_rfl))⟩,
 f16 := ⟨Tryd.f78.name, by decide, Tryd.func78.trans (congrArg some (by kernel_rfl))⟩,
 f17 := ⟨Tryd.f79.name, by decide, Tryd.func79.trans (congrArg some (by kernel_rfl))⟩,
 f18 := ⟨Tryd.f80.name, by decide, Tryd.func80.trans (congrArg some (by kernel_rfl))⟩,
 f19 := Tryd.func81.trans (congrArg some (by kernel_rfl)),
 f20 := Tryd.func82.trans (congrArg some (by kernel_rfl)),
 f30 := ⟨Tryd.f94.name, by decide, Tryd.func94.trans (congrArg some (by kernel_rfl))⟩,
 f31 := Tryd.func95.trans (congrArg some (by kernel_rfl)),
 f32 := Tryd.func96.trans (congrArg some (by kernel_rfl)),
 f33 := ⟨Tryd.f97.name, by decide, Tryd.func97.trans (congrArg some (by kernel_rfl))⟩,
 f34 := ⟨Tryd.f98.name, by decide, Tryd.func98.trans (congrArg some (by kernel_rfl))⟩,
 f35 := ⟨Tryd.f99.name, by decide, Tryd.func99.trans (congrArg some (by kernel_rfl))⟩,
 f40 := ⟨Tryd.f109.name, by decide, Tryd.func109.trans (congrArg some (by kernel_rfl))⟩,
 t0 := Tryd.underlying0,
 a0 := Tryd.isAgg0,
 z0 := Tryd.sizeOf0,
 v0 := Tryd.zeroValue0,
 t3 := Tryd.underlying3,
 a3 := Tryd.isAgg3,
 z3 := Tryd.sizeOf3,
 v3 := Tryd.zeroValue3,
 t4 := Tryd.underlying4,
 a4 := Tryd.isAgg4,
 z4 := Tryd.sizeOf4,
 v4 := Tryd.zeroValue4,
 t5 := Tryd.underlying5,
 a5 := Tryd.isAgg5,
 z5 := Tryd.sizeOf5,
 v5 := Tryd.zeroValue5,
 t9 := Tryd.underlying9,
 a9 := Tryd.isAgg9,
 z9 := Tryd.sizeOf9,
 v9 := Tryd.zeroValue9,
 t22 := Tryd.underlying51,
 a22 := Tryd.isAgg51,
 z22 := Tryd.sizeOf51,
 v22 := Tryd.zeroValue51,
 t23 := Tryd.underlying51,
 a23 := Tryd.isAgg51,
 z23 := Tryd.sizeOf51,
 v23 := Tryd.zeroValue51,
 t25 := Tryd.underlying3,
 a25 := Tryd.isAgg3,
 z25 := Tryd.sizeOf3,
 v25 := Tryd.zeroValue3,
 t32 := Tryd.underlying94,
 a32 := Tryd.isAgg94,
 z32 := Tryd.sizeOf94,
 v32 := Tryd.zeroValue94,
 t35 := Tryd.underlying113,
 a35 := Tryd.isAgg113,
 z35 := Tryd.sizeOf113,
 v35 := Tryd.zeroValue113,
 t36 := Tryd.underlying114,
 a36 := Tryd.isAgg114,
 z36 := Tryd.sizeOf114,
 v36 := Tryd.zeroValue114,
 t41 := Tryd.underlying119,
 a41 := Tryd.isAgg119,
 z41 := Tryd.sizeOf119,
 v41 := Tryd.zeroValue119,
 t44 := Tryd.underlying36,
 a44 := Tryd.isAgg36,
 z44 := Tryd.sizeOf36,
 v44 := Tryd.zeroValue36,
 t46 := Tryd.underlying122,
 a46 := Tryd.isAgg122,
 z46 := Tryd.sizeOf122,
 v46 := Tryd.zeroValue122,
 t53 := Tryd.underlying128,
 a53 := Tryd.isAgg128,
 z53 := Tryd.sizeOf128,
 v53 := Tryd.zeroValue128,
 t57 := Tryd.underlying132,
 a57 := Tryd.isAgg132,
 z57 := Tryd.sizeOf132,
 v57 := Tryd.zeroValue132,
 t63 := Tryd.underlying137,
 a63 := Tryd.isAgg137,
 z63 := Tryd.sizeOf137,
 v63 := Tryd.zeroValue137,
 t64 := Tryd.underlying138,
 a64 := Tryd.isAgg138,
 z64 := Tryd.sizeOf138,
 v64 := Tryd.zeroValue138 }
def CompA_ren : Go.Shelf.Ren := ⟨fun | 20 => 30 | n => n, fun | 22 => 51 | 3 => 3 | 4 => 4 | 0 => 0 | n => n, fun | n => n⟩
theorem CompA : Go.Proofs.Lays2.n20 Tryd.prog CompA_ren := {
 mixed := by kernel_rfl,
 f20 := Tryd.func30.trans (congrArg some (by kernel_rfl)),
 t0 := Tryd.underlying0,
 a0 := Tryd.isAgg0,
 z0 := Tryd.sizeOf0,
 v0 := Tryd.zeroValue0,
 t3 := Tryd.underlying3,
 a3 := Tryd.isAgg3,
 z3 := Tryd.sizeOf3,
 v3 := Tryd.zeroValue3,
 t4 := Tryd.underlying4,
 a4 := Tryd.isAgg4,
 z4 := Tryd.sizeOf4,
 v4 := Tryd.zeroValue4,
 t22 := Tryd.underlying51,
 a22 := Tryd.isAgg51,
 z22 := Tryd.sizeOf51,
 v22 := Tryd.zeroValue51,
 i3 := by kernel_rfl }
end Go.Ab
end
section
namespace Go.Ab
open Go.ChangeShapes Go.WideShapes Go.ChangeAt Go.RowKit
/-! From what a row reads to what is known. -/
inductive TD where
 | b
 | i (k : IntKind)
 | s
 | sl (e : TD)
 | st (fs : List TD)
 | ar (n : Nat) (e : TD)
 deriving Inhabited
def tdFields (P : Program) (rec : TypeId → Option TD) : Nat → List Field → Option (List TD)
 | _, [] => some []
 | n, f :: r => match rec f.type with
  | some td => if f.offset = n then (tdFields P rec (n + P.cellsOf f.type) r).map (td :: ·) else none
  | none => none
def tdOf (P : Program) : Nat → TypeId → Option TD
 | 0, _ => none
 | d + 1, t => match P.underlying t with
  | some .bool => some .b
  | some (.int k) => some (.i k)
  | some .string => some .s
  | some (.slice e) => if 0 < P.cellsOf e then (tdOf P d e).map .sl else none
  | some (.struct fs) => match tdFields P (tdOf P d) 0 fs.toList with
   | some l => if (fs.toList.map fun f => P.cellsOf f.type).sum = P.cellsOf t then some (.st l) else none
   | none => none
  | some (.array n e) => if n * P.cellsOf e = P.cellsOf t then (tdOf P d e).map (.ar n) else none
  | _ => none
inductive Dat : TD → List AV → Prop
 | b (x : Bool) : Dat .b [.bool x]
 | i (k : IntKind) (n : Int) (h : k.min ≤ n ∧ n ≤ k.max) : Dat (.i k) [.int k n]
 | s (x : ByteArray) (h : x.size ≤ maxLen) : Dat .s [.str x]
 | sl (e : TD) (ls : List (List AV)) (hl : ls.length ≤ maxLen) (h : ∀ l ∈ ls, Dat e l) : Dat (.sl e) [.ro ls.flatten ls.length]
 | st (fs : List TD) (ls : List (List AV)) (hl : ls.length = fs.length) (h : ∀ (j : Nat) f l, fs[j]? = some f → ls[j]? = some l → Dat f l) : Dat (.st fs) ls.flatten
 | ar (n : Nat) (e : TD) (ls : List (List AV)) (hl : ls.length = n) (h : ∀ l ∈ ls, Dat e l) : Dat (.ar n e) ls.flatten
def NoO : Nat → Prop := fun _ => False
section
variable {P : Program} {w : World} {H : Type} {enc : TypeId × Value → H} {base : Nat} {spare : Nat → Bool} {held : Bool}
theorem mapM_some {α β : Type} {f : α → Option β} {l : List α} {m : List β} (h : l.mapM f = some m) : l.length = m.length ∧ ∀ (i : Nat) x, l[i]? = some x → ∃ y, m[i]? = some y ∧ f x = some y := mapM_get h
theorem RepL.flatten {O : Nat → Prop} : ∀ (asz : List (List AV)) (vs : List (List Value)), asz.length = vs.length → (∀ (i : Nat) a v, asz[i]? = some a → vs[i]? = some v → RepL w O a v) → RepL w O asz.flatten vs.flatten := by
 intro asz
 induction asz with
 | nil => intro vs hl _; cases vs with
  | nil => exact .nil
  | cons _ _ => simp at hl
 | cons a r ih =>
  intro vs hl h
  cases vs with
  | nil => simp at hl
  | cons v s =>
   simp only [List.flatten_cons]
   exact (h 0 a v rfl rfl).append (ih s (by simpa using hl) fun i a v h1 h2 => h (i + 1) a v (by simpa using h1) (by simpa using h2))
theorem split_cells (n z : Nat) (cs : List Value) (h : cs.length = n * z) : ((List.range n).map fun i => (cs.drop (i * z)).take z).flatten = cs := by
 induction n generalizing cs with
 | zero => simp at h; subst h; simp
 | succ n ih =>
  rw [List.range_succ_eq_map, List.map_cons, List.map_map, List.flatten_cons]
  have hd : (cs.drop z).length = n * z := by simp [h, Nat.succ_mul]
  have := ih (cs.drop z) hd
  have hf : ((fun i => (cs.drop (i * z)).take z) ∘ Nat.succ) = fun i => ((cs.drop z).drop (i * z)).take z := by
   funext i
   simp [List.drop_drop, Nat.succ_mul, Nat.add_comm]
  rw [hf, this]
  simp
theorem split_fields : ∀ (fs : List Field) (n : Nat) (cs : List Value), (∀ (j : Nat) f, fs[j]? = some f → f.offset = n + ((fs.take j).map fun f => P.cellsOf f.type).sum) → cs.length = n + (fs.map fun f => P.cellsOf f.type).sum →
  (fs.map fun f => (cs.drop f.offset).take (P.cellsOf f.type)).flatten = cs.drop n := by
 intro fs
 induction fs with
 | nil => intro n cs _ hl; simp at hl; simp [← hl]
 | cons f r ih =>
  intro n cs ho hl
  have h0 := ho 0 f rfl
  simp at h0
  simp only [List.map_cons, List.sum_cons] at hl
  have := ih (n + P.cellsOf f.type) cs (fun j g hg => by
   have := ho (j + 1) g (by simpa using hg)
   simp only [List.take_succ_cons, List.map_cons, List.sum_cons] at this
   omega) (by omega)
  rw [List.map_cons, List.flatten_cons, this, h0, ← List.drop_drop, List.take_append_drop]
theorem tdFields_get {rec : TypeId → Option TD} : ∀ (fs : List Field) (n : Nat) (l : List TD), tdFields P rec n fs = some l →
  l.length = fs.length ∧ (∀ (j : Nat) f, fs[j]? = some f → f.offset = n + ((fs.take j).map fun f => P.cellsOf f.type).sum ∧ ∃ td, l[j]? = some td ∧ rec f.type = some td) := by
 intro fs
 induction fs with
 | nil => intro n l h; simp [tdFields] at h; subst h; exact ⟨rfl, fun j f h => by simp at h⟩
 | cons f r ih =>
  intro n l h
  simp only [tdFields] at h
  split at h
  ·rename_i td htd
   split at h
   ·rename_i ho
    obtain ⟨m, hm, rfl⟩ := Option.map_eq_some_iff.1 h
    obtain ⟨i1, i2⟩ := ih _ _ hm
    refine ⟨by simp [i1], fun j g hg => ?_⟩
    cases j with
    | zero => simp at hg; subst hg; exact ⟨by simp [ho], td, rfl, htd⟩
    | succ j =>
     obtain ⟨k1, k2⟩ := i2 j g (by simpa using hg)
     refine ⟨by rw [k1]; simp; omega, ?_⟩
     simpa using k2
   ·cases h
  ·cases h
theorem cells_at {a : Addr} {n : Nat} {cs : List Value} (h : w.cells? base a n = some cs) : cs.length = n ∧ ∀ i v, cs[i]? = some v → w.cell? (a.add i) = some v := by
 unfold World.cells? at h
 split at h
 ·obtain ⟨h1, h2⟩ := mapM_some h
  simp at h1
  refine ⟨h1.symm, fun i v hv => ?_⟩
  have hlt : i < n := by rw [h1]; exact (List.getElem?_eq_some_iff.1 hv).1
  obtain ⟨y, hy, hy'⟩ := h2 i i (by simp [hlt])
  rw [hy] at hv
  cases hv
  exact hy'
 ·cases h
theorem dat_of : ∀ (fuel : Nat) (t : TypeId) (cs : List Value) (x : DataW H × List MemPlace), DataW.trod enc P w base spare held fuel t cs = some x → ∀ (d : Nat) (td : TD), tdOf P d t = some td →
  ∃ avs, Dat td avs ∧ RepL w NoO avs cs ∧ (∀ c ∈ cs, c.oneCell' = true) := by
 intro fuel
 induction fuel with
 | zero => intro t cs x h; simp [DataW.trod] at h
 | succ fuel ih =>
  intro t cs x h d td htd
  cases d with
  | zero => simp [tdOf] at htd
  | succ d =>
   cases hu : P.underlying t with
   | none => simp [tdOf, hu] at htd
   | some u =>
    cases u <;> simp only [tdOf, hu] at htd <;> (try (simp at htd; done))
    case bool =>
     cases htd
     simp only [DataW.trod, hu] at h
     split at h <;> (try (cases h; done)) <;> rename_i h1 <;> (try (cases h1; done))
     exact ⟨_, .b _, RepL.nil.cons (.bool _), by simp [Value.oneCell']⟩
    case int k =>
     cases htd
     simp only [DataW.trod, hu] at h
     split at h <;> (try (cases h; done)) <;> rename_i h1 <;> (try (cases h1; done))
     cases h1
     split at h
     ·rename_i hk
      obtain ⟨rfl, hk2⟩ := hk
      simp [Lit.wf] at hk2
      exact ⟨_, .i _ _ hk2, RepL.nil.cons (.int _ _), by simp [Value.oneCell']⟩
     ·cases h
    case string =>
     cases htd
     simp only [DataW.trod, hu] at h
     split at h <;> (try (cases h; done)) <;> rename_i h1 <;> (try (cases h1; done))
     split at h
     ·rename_i hl
      exact ⟨_, .s _ hl, RepL.nil.cons (.str _), by simp [Value.oneCell']⟩
     ·cases h
    case slice e =>
     split at htd
     ·rename_i hz
      obtain ⟨te, hte, rfl⟩ := Option.map_eq_some_iff.1 htd
      simp only [DataW.trod, hu] at h
      split at h <;> (try (cases h; done)) <;> rename_i h1 <;> (try (cases h1; done))
      ·exact ⟨_, .sl te [] (by simp) (by simp), RepL.nil.cons (.roe none 0), by simp [Value.oneCell']⟩
      ·rename_i a len cap
       cases h1
       split at h
       ·rename_i hc
        simp only [Option.bind_eq_some_iff] at h
        obtain ⟨elems, hel, hx2⟩ := h
        obtain ⟨e1, e2⟩ := mapM_some hel
        simp at e1
        -- the elements, one by one
        have key : ∀ i, i < len → ∃ (cs : List Value) (avs : List AV), w.cells? base (a.add (i * P.cellsOf e)) (P.cellsOf e) = some cs ∧ Dat te avs ∧ RepL w NoO avs cs ∧ (∀ c ∈ cs, c.oneCell' = true) := by
         intro i hi
         obtain ⟨y, _, hy⟩ := e2 i i (by simp [hi])
         simp only [Option.bind_eq_some_iff] at hy
         obtain ⟨cs, h1, h2⟩ := hy
         obtain ⟨avs, h3, h4, h5⟩ := ih e cs y h2 d te hte
         exact ⟨cs, avs, h1, h3, h4, h5⟩
        have kall : ∃ ls : List (List AV), ls.length = len ∧ ∀ (i : Nat) l, ls[i]? = some l → ∃ cs, w.cells? base (a.add (i * P.cellsOf e)) (P.cellsOf e) = some cs ∧ Dat te l ∧ RepL w NoO l cs ∧ (∀ c ∈ cs, c.oneCell' = true) := by
         clear e1 e2 hel hc hx2
         induction len with
         | zero => exact ⟨[], rfl, fun i l h => by simp at h⟩
         | succ n ihn =>
          obtain ⟨ls, l1, l2⟩ := ihn fun i hi => key i (by omega)
          obtain ⟨cs, avs, k1, k2, k3, k4⟩ := key n (by omega)
          refine ⟨ls ++ [avs], by simp [l1], fun i l hl => ?_⟩
          by_cases hi : i < ls.length
          ·rw [List.getElem?_append_left hi] at hl
           exact l2 i l hl
          ·rw [List.getElem?_append_right (by omega)] at hl
           have : i = n := by
            have := (List.getElem?_eq_some_iff.1 hl).1
            simp at this; omega
           subst this
           rw [l1] at hl
           simp at hl
           subst hl
           exact ⟨cs, k1, k2, k3, k4⟩
        obtain ⟨ls, l1, l2⟩ := kall
        have hdat : Dat (.sl te) [.ro ls.flatten ls.length] := .sl te ls (by omega) fun l hl => by
         obtain ⟨i, hi⟩ := List.mem_iff_getElem?.1 hl
         obtain ⟨cs, _, k2, _⟩ := l2 i l hi
         exact k2
        refine ⟨_, hdat, RepL.nil.cons ?_, by simp [Value.oneCell']⟩
        rw [l1]
        by_cases h0 : len = 0
        ·subst h0
         rw [List.eq_nil_of_length_eq_zero l1]
         exact .roe _ _
        ·-- the row
         have hspot : a.spot = none := by
          obtain ⟨cs, avs, k1, k2, k3, k4⟩ := key 0 (by omega)
          obtain ⟨q1, q2⟩ := cells_at k1
          have hc0 := q2 0 _ (List.getElem?_eq_getElem (by omega))
          simp only [Nat.zero_mul] at hc0
          have : (a.add 0).add 0 = a := by simp [Addr.add]
          rw [this] at hc0
          exact World.cell?_spot hc0
         obtain ⟨b, o, sp⟩ := a
         simp only at hspot
         subst hspot
         have hlens : ∀ (i : Nat) l, ls[i]? = some l → l.length = P.cellsOf e := by
          intro i l hl
          obtain ⟨cs, k1, _, k3, _⟩ := l2 i l hl
          rw [k3.1]; exact (cells_at k1).1
         have hcell : ∀ (j : Nat) v, ls.flatten[j]? = some v → ∃ c, w.cell? ⟨b, o + j, none⟩ = some c ∧ c.oneCell' = true ∧ Rep w NoO v c := by
          have gen : ∀ (m : Nat) (ms : List (List AV)), (∀ (i : Nat) l, ms[i]? = some l → ls[m + i]? = some l) → ∀ (j : Nat) v, ms.flatten[j]? = some v → ∃ c, w.cell? ⟨b, o + (m * P.cellsOf e + j), none⟩ = some c ∧ c.oneCell' = true ∧ Rep w NoO v c := by
           intro m ms
           induction ms generalizing m with
           | nil => intro _ j v hv; simp at hv
           | cons l r ihr =>
            intro hm j v hv
            have hl := hm 0 l rfl
            simp only [Nat.add_zero] at hl
            obtain ⟨cs, k1, k2, k3, k4⟩ := l2 m l hl
            obtain ⟨q1, q2⟩ := cells_at k1
            have hll := hlens m l hl
            rw [List.flatten_cons] at hv
            by_cases hj : j < l.length
            ·rw [List.getElem?_append_left hj] at hv
             have hcs : cs[j]? = some (cs[j]'(by omega)) := List.getElem?_eq_getElem _
             have := q2 j _ hcs
             rw [Addr.add_lit, Addr.add_lit] at this
             exact ⟨_, by rw [← Nat.add_assoc]; exact this, k4 _ (List.getElem_mem _), k3.2 j v _ hv hcs⟩
            ·rw [List.getElem?_append_right (by omega)] at hv
             obtain ⟨c, z1, z2, z3⟩ := ihr (m + 1) (fun i l hl => by
              have := hm (i + 1) l (by simpa using hl)
              rwa [show m + 1 + i = m + (i + 1) by omega]) (j - l.length) v hv
             refine ⟨c, ?_, z2, z3⟩
             rw [show m * P.cellsOf e + j = (m + 1) * P.cellsOf e + (j - l.length) by rw [Nat.succ_mul]; omega]
             exact z1
          intro j v hv
          have := gen 0 ls (fun i l hl => by rwa [Nat.zero_add]) j v hv
          simpa using this
         have hb : b < w.heap.size := by
          obtain ⟨cs, avs, k1, k2, k3, k4⟩ := key 0 (by omega)
          obtain ⟨q1, q2⟩ := cells_at k1
          have hc0 := q2 0 _ (List.getElem?_eq_getElem (by omega))
          simp only [Nat.zero_mul, Addr.add_lit] at hc0
          unfold World.cell? at hc0
          cases hbb : w.heap[b]? with
          | none => simp [hbb] at hc0
          | some y => exact (Array.getElem?_eq_some_iff.1 hbb).1
         refine .ro _ _ _ b o (fun j => (w.cell? ⟨b, o + j, none⟩).getD undef) hc.2.1 hb (fun h => h) (fun j v hv => ?_) (fun j v hv => ?_)
         ·obtain ⟨c, z1, z2, _⟩ := hcell j v hv
          rw [z1]; exact ⟨rfl, z2⟩
         ·obtain ⟨c, z1, _, z3⟩ := hcell j v hv
          rw [z1]; exact z3
       ·cases h
     ·cases htd
    case struct fs =>
     split at htd
     ·rename_i l hl
      split at htd
      ·rename_i hsum
       cases htd
       simp only [DataW.trod, hu] at h
       split at h
       ·rename_i hlen
        obtain ⟨xs, hxs, _⟩ := Option.map_eq_some_iff.1 h
        obtain ⟨e1, e2⟩ := mapM_some hxs
        obtain ⟨f1, f2⟩ := tdFields_get fs.toList 0 l hl
        have key : ∀ (j : Nat) f, fs.toList[j]? = some f → ∃ td avs, l[j]? = some td ∧ Dat td avs ∧ RepL w NoO avs ((cs.drop f.offset).take (P.cellsOf f.type)) ∧ (∀ c ∈ (cs.drop f.offset).take (P.cellsOf f.type), c.oneCell' = true) := by
         intro j f hf
         obtain ⟨y, _, hy⟩ := e2 j f hf
         obtain ⟨_, td, k1, k2⟩ := f2 j f hf
         obtain ⟨avs, h3, h4, h5⟩ := ih f.type _ y hy d td k2
         exact ⟨td, avs, k1, h3, h4, h5⟩
        have kall : ∃ ls : List (List AV), ls.length = fs.toList.length ∧ ∀ (j : Nat) f a, fs.toList[j]? = some f → ls[j]? = some a → ∃ td, l[j]? = some td ∧ Dat td a ∧ RepL w NoO a ((cs.drop f.offset).take (P.cellsOf f.type)) := by
         clear e1 e2 hxs h f1 f2 hl hlen hsum
         generalize fs.toList = F at key
         induction F generalizing l with
         | nil => exact ⟨[], rfl, fun j f a h => by simp at h⟩
         | cons g r ihF =>
          obtain ⟨td, avs, k1, k2, k3, _⟩ := key 0 g rfl
          cases l with
          | nil => simp at k1
          | cons l0 lr =>
           obtain ⟨ls, m1, m2⟩ := ihF lr fun j f hf => by
            obtain ⟨td, avs, z1, z2⟩ := key (j + 1) f (by simpa using hf)
            exact ⟨td, avs, by simpa using z1, z2⟩
           refine ⟨avs :: ls, by simp [m1], fun j f a hf ha => ?_⟩
           cases j with
           | zero => simp at hf ha; subst hf; subst ha; exact ⟨td, k1, k2, k3⟩
           | succ j =>
            obtain ⟨td, z1, z2⟩ := m2 j f a (by simpa using hf) (by simpa using ha)
            exact ⟨td, by simpa using z1, z2⟩
        obtain ⟨ls, m1, m2⟩ := kall
        have hsplit := split_fields (P := P) fs.toList 0 cs (fun j f hf => (f2 j f hf).1) (by rw [hlen, hsum]; simp)
        simp only [List.drop_zero] at hsplit
        have hrep : RepL w NoO ls.flatten cs := by
         rw [← hsplit]
         refine RepL.flatten _ _ (by simp [m1]) fun j a v ha hv => ?_
         simp only [List.getElem?_map, Option.map_eq_some_iff] at hv
         obtain ⟨f, hf, rfl⟩ := hv
         obtain ⟨td, _, _, z3⟩ := m2 j f a hf ha
         exact z3
        refine ⟨ls.flatten, .st l ls (by rw [m1, f1]) fun j td a htd ha => ?_, hrep, ?_⟩
        ·have hlt : j < fs.toList.length := by rw [← m1]; exact (List.getElem?_eq_some_iff.1 ha).1
         obtain ⟨td', z1, z2, _⟩ := m2 j _ a (List.getElem?_eq_getElem hlt) ha
         rw [htd] at z1
         cases z1
         exact z2
        ·intro c hc
         rw [← hsplit] at hc
         obtain ⟨m, hm, hcm⟩ := List.mem_flatten.1 hc
         obtain ⟨f, hf, rfl⟩ := List.mem_map.1 hm
         obtain ⟨j, hj⟩ := List.mem_iff_getElem?.1 hf
         obtain ⟨_, _, _, _, _, k5⟩ := key j f hj
         exact k5 c hcm
       ·cases h
      ·cases htd
     ·cases htd
    case array n e =>
     split at htd
     ·rename_i hsz
      obtain ⟨te, hte, rfl⟩ := Option.map_eq_some_iff.1 htd
      simp only [DataW.trod, hu] at h
      split at h
      ·rename_i hlen
       obtain ⟨xs, hxs, _⟩ := Option.map_eq_some_iff.1 h
       obtain ⟨e1, e2⟩ := mapM_some hxs
       have key : ∀ i, i < n → ∃ avs, Dat te avs ∧ RepL w NoO avs ((cs.drop (i * P.cellsOf e)).take (P.cellsOf e)) ∧ (∀ c ∈ (cs.drop (i * P.cellsOf e)).take (P.cellsOf e), c.oneCell' = true) := by
        intro i hi
        obtain ⟨y, _, hy⟩ := e2 i i (by simp [hi])
        exact ih e _ y hy d te hte
       have kall : ∃ ls : List (List AV), ls.length = n ∧ ∀ (i : Nat) a, ls[i]? = some a → Dat te a ∧ RepL w NoO a ((cs.drop (i * P.cellsOf e)).take (P.cellsOf e)) := by
        clear e1 e2 hxs h hsz hlen htd hu
        induction n with
        | zero => exact ⟨[], rfl, fun i a h => by simp at h⟩
        | succ n ihn =>
         obtain ⟨ls, l1, l2⟩ := ihn fun i hi => key i (by omega)
         obtain ⟨avs, k1, k2, _⟩ := key n (by omega)
         refine ⟨ls ++ [avs], by simp [l1], fun i a ha => ?_⟩
         by_cases hi : i < ls.length
         ·rw [List.getElem?_append_left hi] at ha
          exact l2 i a ha
         ·rw [List.getElem?_append_right (by omega)] at ha
          have : i = n := by
           have := (List.getElem?_eq_some_iff.1 ha).1
           simp at this; omega
          subst this
          rw [l1] at ha
          simp at ha
          subst ha
          exact ⟨k1, k2⟩
       obtain ⟨ls, l1, l2⟩ := kall
       have hsplit := split_cells n (P.cellsOf e) cs (by rw [hlen, hsz])
       have hrep : RepL w NoO ls.flatten cs := by
        rw [← hsplit]
        refine RepL.flatten _ _ (by simp [l1]) fun j a v ha hv => ?_
        have hlt : j < n := by rw [← l1]; exact (List.getElem?_eq_some_iff.1 ha).1
        simp only [List.getElem?_map, Option.map_eq_some_iff] at hv
        obtain ⟨i, hi, rfl⟩ := hv
        rw [List.getElem?_range hlt] at hi
        cases hi
        exact (l2 j a ha).2
       refine ⟨ls.flatten, .ar n te ls l1 fun a ha => ?_, hrep, ?_⟩
       ·obtain ⟨i, hi⟩ := List.mem_iff_getElem?.1 ha
        exact (l2 i a hi).1
       ·intro c hc
        rw [← hsplit] at hc
        obtain ⟨m, hm, hcm⟩ := List.mem_flatten.1 hc
        obtain ⟨i, hi, rfl⟩ := List.mem_map.1 hm
        obtain ⟨_, _, _, k5⟩ := key i (by simpa using hi)
        exact k5 c hcm
      ·cases h
     ·cases htd
def argOf (td : TD) (avs : List AV) : AV :=
 match td with
 | .st _ | .ar _ _ => .agg avs
 | _ => avs.headD .any
theorem arg_of {r : Go.Reach} {b0 : Nat} {t : TypeId} {v : Value} {x : DataW H} {ps : List MemPlace} (hv : Value.okWide P w r b0 t v) (h : DataW.Trod enc P w base spare held t v x ps) {d : Nat} {td : TD} (htd : tdOf P d t = some td) :
  ∃ avs, Dat td avs ∧ Rep w NoO (argOf td avs) v := by
 obtain ⟨fuel, hf⟩ := h
 obtain ⟨avs, h1, h2, h3⟩ := dat_of fuel t _ _ hf d td htd
 refine ⟨avs, h1, ?_⟩
 have one : (∃ a, avs = [a]) → v.cells.toList = [v] → (match td with | .st _ | .ar _ _ => False | _ => True) → Rep w NoO (argOf td avs) v := by
  rintro ⟨a, rfl⟩ hc ht
  rw [hc] at h2
  have hr := h2.2 0 a v rfl rfl
  cases td <;> first | exact hr | exact ht.elim
 have agg : (∃ cs, v = .agg cs) → argOf td avs = .agg avs → Rep w NoO (argOf td avs) v := by
  rintro ⟨cs, rfl⟩ he
  rw [he]
  have := h2.agg h3
  simpa [Value.cells] using this
 cases d with
 | zero => simp [tdOf] at htd
 | succ d =>
  cases hu : P.underlying t with
  | none => simp [tdOf, hu] at htd
  | some u =>
   cases u <;> simp only [tdOf, hu] at htd <;> (try (simp at htd; done))
   case bool =>
    cases htd
    simp only [Value.okWide, hu, Cell.okWide] at hv
    cases h1
    refine one ⟨_, rfl⟩ ?_ trivial
    cases v <;> simp_all [Cell.ok, Value.cells]
   case int k =>
    cases htd
    obtain ⟨n, rfl⟩ := okWide_int hu hv
    cases h1
    exact one ⟨_, rfl⟩ rfl trivial
   case string =>
    cases htd
    obtain ⟨n, rfl⟩ := okWide_string hu hv
    cases h1
    exact one ⟨_, rfl⟩ rfl trivial
   case slice e =>
    split at htd
    ·obtain ⟨te, _, rfl⟩ := Option.map_eq_some_iff.1 htd
     obtain ⟨a, len, cap, rfl⟩ := okWide_slice hu hv
     cases h1
     exact one ⟨_, rfl⟩ rfl trivial
    ·cases htd
   case struct fs =>
    split at htd
    ·split at htd
     ·cases htd
      simp only [Value.okWide, hu] at hv
      obtain ⟨cs, hc, _⟩ := hv
      exact agg ⟨cs, hc⟩ rfl
     ·cases htd
    ·cases htd
   case array n e =>
    split at htd
    ·obtain ⟨te, _, rfl⟩ := Option.map_eq_some_iff.1 htd
     simp only [Value.okWide, hu] at hv
     obtain ⟨cs, hc, _⟩ := hv
     exact agg ⟨cs, hc⟩ rfl
    ·cases htd
end
end Go.Ab
end
section
namespace Go.Ab
theorem dat_i {k : IntKind} {l : List AV} (h : Dat (.i k) l) : ∃ n, l = [.int k n] ∧ k.min ≤ n ∧ n ≤ k.max := by
 cases h with
 | i k n h => exact ⟨n, rfl, h⟩
theorem dat_b {l : List AV} (h : Dat .b l) : ∃ x, l = [.bool x] := by
 cases h with
 | b x => exact ⟨x, rfl⟩
theorem dat_list {α : Type} {e : TD} (f : α → List AV) (ok : α → Prop) (one : ∀ l, Dat e l → ∃ x, ok x ∧ l = f x) : ∀ (ls : List (List AV)), (∀ l ∈ ls, Dat e l) →
  ∃ xs : List α, xs.length = ls.length ∧ ls.flatten = xs.flatMap f ∧ ∀ x ∈ xs, ok x := by
 intro ls
 induction ls with
 | nil => intro _; exact ⟨[], rfl, rfl, fun x h => by cases h⟩
 | cons l r ih =>
  intro h
  obtain ⟨x, hx, rfl⟩ := one l (h l (by simp))
  obtain ⟨xs, h1, h2, h3⟩ := ih fun l hl => h l (by simp [hl])
  refine ⟨x :: xs, by simp [h1], by simp [h2], fun y hy => ?_⟩
  rcases List.mem_cons.1 hy with rfl | hy
  ·exact hx
  ·exact h3 y hy
theorem dat_st {fs : List TD} {l : List AV} (h : Dat (.st fs) l) : ∃ ls : List (List AV), ls.length = fs.length ∧ l = ls.flatten ∧ ∀ (j : Nat) f l, fs[j]? = some f → ls[j]? = some l → Dat f l := by
 cases h with
 | st fs ls hl h => exact ⟨ls, hl, rfl, h⟩
theorem dat_st_nil {l : List AV} (h : Dat (.st []) l) : l = [] := by
 obtain ⟨ls, h1, rfl, _⟩ := dat_st h
 rw [List.eq_nil_of_length_eq_zero h1]; rfl
theorem dat_st_cons {f : TD} {fs : List TD} {l : List AV} (h : Dat (.st (f :: fs)) l) : ∃ a b, l = a ++ b ∧ Dat f a ∧ Dat (.st fs) b := by
 obtain ⟨ls, h1, rfl, h2⟩ := dat_st h
 cases ls with
 | nil => simp at h1
 | cons a r => exact ⟨a, r.flatten, rfl, h2 0 f a rfl rfl, .st fs r (by simpa using h1) fun j f l x y => h2 (j + 1) f l (by simpa using x) (by simpa using y)⟩
theorem dat_u8 {l : List AV} (h : Dat (.i .u8) l) : ∃ x : BitVec 8, l = [.int .u8 (x.toNat : Int)] := by
 obtain ⟨n, rfl, h1, h2⟩ := dat_i h
 simp [IntKind.min, IntKind.max, IntKind.signed, IntKind.bits] at h1 h2
 refine ⟨BitVec.ofNat 8 n.toNat, ?_⟩
 rw [BitVec.toNat_ofNat, Nat.mod_eq_of_lt (by omega), Int.toNat_of_nonneg h1]
theorem dat_u32 {l : List AV} (h : Dat (.i .u32) l) : ∃ x : BitVec 32, l = [.int .u32 (x.toNat : Int)] := by
 obtain ⟨n, rfl, h1, h2⟩ := dat_i h
 simp [IntKind.min, IntKind.max, IntKind.signed, IntKind.bits] at h1 h2
 refine ⟨BitVec.ofNat 32 n.toNat, ?_⟩
 rw [BitVec.toNat_ofNat, Nat.mod_eq_of_lt (by omega), Int.toNat_of_nonneg h1]
theorem dat_i64 {l : List AV} (h : Dat (.i .i64) l) : ∃ n : Int, l = [.int .i64 n] ∧ -9223372036854775808 ≤ n ∧ n ≤ 9223372036854775807 := by
 obtain ⟨n, rfl, h1, h2⟩ := dat_i h
 simp [IntKind.min, IntKind.max, IntKind.signed, IntKind.bits] at h1 h2
 exact ⟨n, rfl, h1, h2⟩
theorem flatMap_one {α : Type} (f : α → AV) (l : List α) : (l.flatMap fun x => [f x]) = l.map f := by
 induction l with
 | nil => rfl
 | cons a r ih => simp [ih]
theorem dat_bytes {l : List AV} (h : Dat (.sl (.i .u8)) l) : ∃ xs : List (BitVec 8), xs.length ≤ maxLen ∧ l = [byt xs] := by
 cases h with
 | sl e ls hl h =>
  obtain ⟨xs, h1, h2, _⟩ := dat_list (fun x : BitVec 8 => [AV.int .u8 (x.toNat : Int)]) (fun _ => True) (fun l hl => by obtain ⟨x, rfl⟩ := dat_u8 hl; exact ⟨x, trivial, rfl⟩) ls h
  rw [flatMap_one] at h2
  exact ⟨xs, by omega, by rw [h2, ← h1]; rfl⟩
end Go.Ab
end
section
namespace Go.Ab
def tdWay : TD := .st [.i .u32, .sl .b, .i .i64]
theorem dat_bools {l : List AV} (h : Dat (.sl .b) l) : ∃ xs : List Bool, xs.length ≤ maxLen ∧ l = [.ro (bos xs) xs.length] := by
 cases h with
 | sl e ls hl h =>
  obtain ⟨xs, h1, h2, _⟩ := dat_list (fun x : Bool => [AV.bool x]) (fun _ => True) (fun l hl => by obtain ⟨x, rfl⟩ := dat_b hl; exact ⟨x, trivial, rfl⟩) ls h
  rw [flatMap_one] at h2
  exact ⟨xs, by omega, by rw [h2, ← h1]; rfl⟩
theorem dat_way {l : List AV} (h : Dat tdWay l) : ∃ w : IWay, True ∧ l = w.cells := by
 obtain ⟨_, _, rfl, h1, h⟩ := dat_st_cons h
 obtain ⟨_, _, rfl, h2, h⟩ := dat_st_cons h
 obtain ⟨_, _, rfl, h3, h⟩ := dat_st_cons h
 obtain rfl := dat_st_nil h
 obtain ⟨a, rfl⟩ := dat_u32 h1
 obtain ⟨b, _, rfl⟩ := dat_bools h2
 obtain ⟨c, rfl, _⟩ := dat_i64 h3
 exact ⟨⟨a, b, c⟩, trivial, rfl⟩
end Go.Ab
end
section
namespace Go.Ab
structure MpI (es : Array MapEntry) (t : Nat) (m : List (Int × Value)) : Prop where
 ent : es.toList.map (fun e => (e.key, e.val)) = m.map fun p => (Value.int .i64 p.1, p.2)
 rg : ∀ p ∈ m, -9223372036854775808 ≤ p.1 ∧ p.1 < 9223372036854775808
 st : MapKept.Stamped es t
theorem MpI.keys {es : Array MapEntry} {t : Nat} {m : List (Int × Value)} (h : MpI es t m) : es.toList.map (·.key) = m.map fun p => Value.int .i64 p.1 := by
 have := congrArg (List.map Prod.fst) h.ent
 simpa [List.map_map, Function.comp_def] using this
theorem MpI.size {es : Array MapEntry} {t : Nat} {m : List (Int × Value)} (h : MpI es t m) : es.size = m.length := by
 have := congrArg List.length h.ent
 simpa using this
theorem MpI.nd {es : Array MapEntry} {t : Nat} {m : List (Int × Value)} (h : MpI es t m) : (m.map (·.1)).Nodup := by
 have := h.st.2.2
 rw [h.keys] at this
 rw [show m.map (fun p => Value.int .i64 p.1) = (m.map (·.1)).map (Value.int .i64) by simp [List.map_map, Function.comp_def]] at this
 exact List.Pairwise.of_map _ (fun a b hab e => hab (by rw [e])) this
theorem MpI.nil : MpI #[] 0 [] := ⟨rfl, by simp, by simp, by simp, by simp⟩
theorem MpI.get {es : Array MapEntry} {t : Nat} {m : List (Int × Value)} (h : MpI es t m) (j : Nat) : (es[j]?).map (fun e => (e.key, e.val)) = (m[j]?).map fun p => (Value.int .i64 p.1, p.2) := by
 have := congrArg (fun l => l[j]?) h.ent
 simpa using this
theorem MpI.fnd {es : Array MapEntry} {t : Nat} {m : List (Int × Value)} (h : MpI es t m) (n : Int) :
  (fnd .i64 .i64 n es = some none ∧ ∀ p ∈ m, p.1 ≠ n) ∨ ∃ j v, fnd .i64 .i64 n es = some (some (j, v)) ∧ m[j]? = some (n, v) := by
 have hk : ∀ x ∈ es.toList, MapKept.IsKey (.int .i64) x.key := by
  intro x hx
  have : x.key ∈ es.toList.map (·.key) := List.mem_map.2 ⟨x, hx, rfl⟩
  rw [h.keys] at this
  obtain ⟨p, _, e⟩ := List.mem_map.1 this
  rw [← e]; rfl
 rcases MapKept.findNow_spec (d := .int .i64) (k := .int .i64 n) rfl es.toList 0 hk with ⟨h1, h2⟩ | ⟨j, e, h1, h2, h3⟩
 ·refine .inl ⟨h1, fun p hp e => ?_⟩
  have : Value.int .i64 p.1 ∈ es.toList.map (·.key) := by rw [h.keys]; exact List.mem_map.2 ⟨p, hp, rfl⟩
  obtain ⟨x, hx, ex⟩ := List.mem_map.1 this
  exact h2 x hx (by rw [ex, e])
 ·refine .inr ⟨j, e.val, by simpa [Ab.fnd] using h1, ?_⟩
  have hg := h.get j
  rw [show es[j]? = some e by simpa using h2] at hg
  cases hm : m[j]? with
  | none => simp [hm] at hg
  | some p =>
   simp only [hm, Option.map_some, Option.some.injEq, Prod.mk.injEq] at hg
   rw [h3] at hg
   simp only [Value.int.injEq, true_and] at hg
   rw [hg.1, hg.2]
theorem MpI.add {es : Array MapEntry} {t : Nat} {m : List (Int × Value)} (h : MpI es t m) {n : Int} (hn : ∀ p ∈ m, p.1 ≠ n) (hr : -9223372036854775808 ≤ n ∧ n < 9223372036854775808) (v : Value) :
  MpI (es.push { key := .int .i64 n, val := v, born := t }) (t + 1) (m ++ [(n, v)]) := by
 obtain ⟨s1, s2, s3⟩ := h.st
 refine ⟨by simp [h.ent], fun p hp => ?_, fun x hx => ?_, ?_, ?_⟩
 ·rcases List.mem_append.1 hp with hp | hp
  ·exact h.rg p hp
  ·simp at hp; subst hp; exact hr
 ·rcases (by simpa using hx : x ∈ es ∨ x = _) with hx | rfl
  ·have := s1 x (by simpa using hx); omega
  ·exact Nat.lt_succ_self _
 ·simp only [Array.toList_push, List.map_append, List.map_cons, List.map_nil]
  refine List.nodup_append.2 ⟨s2, by simp, fun a ha b hb e => ?_⟩
  obtain ⟨x, hx, rfl⟩ := List.mem_map.1 ha
  simp at hb
  have := s1 x hx
  omega
 ·simp only [Array.toList_push, List.map_append, List.map_cons, List.map_nil]
  refine List.nodup_append.2 ⟨s3, by simp, fun a ha b hb e => ?_⟩
  rw [h.keys] at ha
  obtain ⟨p, hp, rfl⟩ := List.mem_map.1 ha
  simp at hb
  subst hb
  simp only [Value.int.injEq, true_and] at e
  exact hn p hp e
theorem map_modify {α β : Type} (f : α → β) (g : α → α) (l : List α) (j : Nat) (b : β) (h : ∀ a, l[j]? = some a → f (g a) = b) : (l.modify j g).map f = (l.map f).set j b := by
 apply List.ext_getElem?
 intro i
 simp only [List.getElem?_map, List.getElem?_modify, List.getElem?_set, List.length_map]
 by_cases e : j = i
 ·subst e
  by_cases hl : j < l.length
  ·simp [hl, h _ (List.getElem?_eq_getElem hl)]
  ·simp [hl]
 ·simp [e]
theorem MpI.put {es : Array MapEntry} {t : Nat} {m : List (Int × Value)} (h : MpI es t m) {j : Nat} {n : Int} {u : Value} (hj : m[j]? = some (n, u)) (v : Value) :
  MpI (es.modify j fun e => { e with key := .int .i64 n, val := v }) t (m.set j (n, v)) := by
 obtain ⟨s1, s2, s3⟩ := h.st
 have hg := h.get j
 rw [hj] at hg
 have hb : (es.toList.modify j fun e => { e with key := .int .i64 n, val := v }).map (·.born) = es.toList.map (·.born) := by
  apply List.ext_getElem?
  intro i
  simp only [List.getElem?_map, List.getElem?_modify]
  cases es.toList[i]? with
  | none => simp
  | some a => by_cases e : j = i <;> simp [e]
 have hk : (es.toList.modify j fun e => { e with key := .int .i64 n, val := v }).map (·.key) = es.toList.map (·.key) := by
  apply List.ext_getElem?
  intro i
  simp only [List.getElem?_map, List.getElem?_modify]
  by_cases e : j = i
  ·subst e
   cases hx : es.toList[j]? with
   | none => simp
   | some a =>
    rw [show es[j]? = some a by simpa using hx] at hg
    simp only [Option.map_some, Option.some.injEq, Prod.mk.injEq] at hg
    simp [hg.1]
  ·simp [e]
 refine ⟨?_, fun p hp => ?_, fun x hx => ?_, by rw [Array.toList_modify, hb]; exact s2, by rw [Array.toList_modify, hk]; exact s3⟩
 ·rw [Array.toList_modify, map_modify (fun e : MapEntry => (e.key, e.val)) _ _ _ (Value.int .i64 n, v) (fun _ _ => rfl), h.ent, List.map_set]
 ·rcases List.mem_or_eq_of_mem_set hp with hp | rfl
  ·exact h.rg p hp
  ·exact h.rg (n, u) (List.mem_of_getElem? hj)
 ·have : x.born ∈ es.toList.map (·.born) := by
   rw [← hb]; exact List.mem_map.2 ⟨x, by simpa [Array.toList_modify] using hx, rfl⟩
  obtain ⟨y, hy, e⟩ := List.mem_map.1 this
  rw [← e]; exact s1 y hy
end Go.Ab
end
section
namespace Go.Ab
open Go.Maps Go.WideElems
end Go.Ab
end
section
namespace Go.Ab
open Go.Maps
end Go.Ab
end
section
namespace Go.Ab
theorem write_rep {w : World} {h : Heap} (hh : HRep w h) {b : Nat} {pre old : List AV} {sp sp' : Nat} (hb : h b = some ⟨pre ++ old, sp⟩) (hk : isC w b) {ys : List Int} {m : Nat} (hl : ys.length = old.length) (hm : m ≤ ys.length) (hsp : sp' = sp + (ys.length - m)) (n : Nat) (os : Array Obj) :
  HRep (Sort.grow (Sort.putRow (Value.int .i64) (Sort.ahead w n) b pre.length ys.toArray) os) (upd h b ⟨pre ++ (ys.take m).map (AV.int .i64), sp'⟩) ∧ Fr w h (Sort.grow (Sort.putRow (Value.int .i64) (Sort.ahead w n) b pre.length ys.toArray) os) (upd h b ⟨pre ++ (ys.take m).map (AV.int .i64), sp'⟩) := by
 obtain ⟨c, t, hw, hsz, hc⟩ := hh.cells hb hk
 simp only [List.length_append] at hsz
 have hbl : b < w.heap.size := (Array.getElem?_eq_some_iff.1 hw).1
 generalize hw' : Sort.grow (Sort.putRow (Value.int .i64) (Sort.ahead w n) b pre.length ys.toArray) os = w'
 have e0 : ∀ k, k < w.heap.size → w'.heap[k]? = if b = k then some (.cells (Sort.putCells (Value.int .i64) pre.length ys.toArray c) t (0, 0)) else w.heap[k]? := by
  intro k hk
  rw [← hw']
  simp only [Sort.grow, Sort.putRow, Sort.mapBlock, Sort.ahead]
  rw [Array.getElem?_append_left (by simpa using hk), Array.getElem?_modify]
  by_cases e : b = k
  ·subst e; simp [hw, Sort.onCells]
  ·simp [e]
 have hws : w.heap.size ≤ w'.heap.size := by rw [← hw']; simp [Sort.grow, Sort.putRow, Sort.mapBlock, Sort.ahead]
 have hwo : w'.os = w.os ∧ w'.tape = w.tape ∧ w'.output = w.output := by rw [← hw']; exact ⟨rfl, rfl, rfl⟩
 have eo : ∀ k, k < w.heap.size → k ≠ b → w'.heap[k]? = w.heap[k]? := fun k h1 h2 => by rw [e0 k h1, if_neg (Ne.symm h2)]
 have eb := e0 b hbl
 rw [if_pos rfl] at eb
 have hck : ∀ b', isC w b' → isC w' b' := by
  rintro b' ⟨c', t', f, e⟩
  by_cases h1 : b' = b
  ·subst h1; exact ⟨_, _, _, eb⟩
  ·exact ⟨c', t', f, (eo b' (Array.getElem?_eq_some_iff.1 e).1 h1).trans e⟩
 have hf : Fr w h w' (upd h b ⟨pre ++ (ys.take m).map (AV.int .i64), sp'⟩) := ⟨hws, fun b' hb' e => by
  have hne : b' ≠ b := by rintro rfl; rw [hb] at e; cases e
  exact ⟨by simp [upd, hne, e], eo b' hb' hne⟩, hck, hwo.1, hwo.2.1, hwo.2.2⟩
 refine ⟨fun b' y hy => ?_, hf⟩
 unfold upd at hy
 split at hy
 ·rename_i e
  cases hy
  subst e
  refine .inl ⟨_, t, eb, by simp [Sort.putCells]; omega, fun i v hv => ?_⟩
  have hsize : (Sort.putCells (Value.int .i64) pre.length ys.toArray c).size = c.size := by simp [Sort.putCells]
  rw [List.getElem?_append] at hv
  split at hv
  ·rename_i hi
   obtain ⟨cv, h1, h2, h3⟩ := hc i v (by rw [List.getElem?_append_left hi]; exact hv)
   refine ⟨cv, ?_, h2, h3.keep hf.keeps⟩
   simp only [Sort.putCells, Array.getElem?_mapIdx, h1, Option.map_some]
   rw [if_neg (by omega)]
  ·rename_i hi
   rw [List.getElem?_map] at hv
   obtain ⟨q, hq, rfl⟩ := Option.map_eq_some_iff.1 hv
   have hq1 : i - pre.length < ys.length := by
    have := (List.getElem?_eq_some_iff.1 hq).1
    rw [List.length_take] at this
    omega
   have hq2 : ys[i - pre.length]? = some q := by
    rw [List.getElem?_take] at hq
    split at hq
    ·exact hq
    ·cases hq
   have hci : i < c.size := by omega
   refine ⟨.int .i64 q, ?_, rfl, .int _ _⟩
   simp only [Sort.putCells, Array.getElem?_mapIdx, Array.getElem?_eq_getElem hci, Option.map_some]
   rw [if_pos ⟨by omega, by simp; omega⟩]
   simp [hq1, (List.getElem?_eq_some_iff.1 hq2).2]
 ·rename_i e
  have hl := own_lt (hh b' y hy)
  exact own_keep (hh b' y hy) (eo b' hl e) hf.keeps
theorem holds_of {w : World} {h : Heap} (hh : HRep w h) {b : Nat} {pre : List AV} {zs : List Int} {sp : Nat} (hb : h b = some ⟨pre ++ zs.map (AV.int .i64), sp⟩) (hk : isC w b) : Sort.Holds (Value.int .i64) w b pre.length zs.toArray := by
 obtain ⟨c, t, hw, hsz, hc⟩ := hh.cells hb hk
 intro j hj
 have hj' : j < zs.length := by simpa using hj
 obtain ⟨cv, h1, h2, h3⟩ := hc (pre.length + j) (.int .i64 zs[j]) (by rw [List.getElem?_append_right (by omega), Nat.add_sub_cancel_left, List.getElem?_map, List.getElem?_eq_getElem hj']; rfl)
 rw [rep_int h3] at h1
 refine ⟨?_, ?_⟩
 ·simp only [World.cell?, hw, h1]
  simp [hj']
 ·simp [World.frozen?, hw]
end Go.Ab
end
section
namespace Go.Ab
open Go.Proofs Go.Shelf
variable {G : Glo} {h : Heap}
theorem Sort_own {g H : Heap} {v : AV} {zs : List Int} (ho : Own 1 g v (zs.map (AV.int .i64)) zs.length H) (hl : zs.length ≤ 1000000) :
  Spec Tryd.prog G 29 [v] H (fun r H' => r = .tup [] ∧ Own 1 g v ((zs.mergeSort fun x y => decide (x ≤ y)).map (AV.int .i64)) zs.length H') := by
 intro w vs hh hg hr
 obtain ⟨v0, rfl⟩ : ∃ v0, vs = [v0] := by
  match vs, hr.1 with
  | [v], _ => exact ⟨v, rfl⟩
 have h0 := hr.2 0 _ _ rfl rfl
 by_cases hz : zs = []
 ·subst hz
  have hs : ∃ p cap, v0 = .slice p 0 cap := by
   generalize hc : ([] : List Int).map (AV.int .i64) = cells at ho
   generalize hn : ([] : List Int).length = n at ho
   cases ho with
   | nil => exact ⟨none, 0, rep_nils h0⟩
   | row b n cap pre cells sp hb hl hc =>
    obtain ⟨a, e, _⟩ := rep_sl h0
    rw [e, ← hn]; exact ⟨_, _, rfl⟩
  obtain ⟨p, cap, rfl⟩ := hs
  refine (AnyM.slices_Sort_int_none SortA p cap w).mono ?_
  rintro e w' ⟨rfl, rfl⟩
  exact ⟨_, _, H, rfl, ⟨rfl, by simpa using ho⟩, hh, .tup [] #[] rfl (fun i v c h => by simp at h), Fr.refl _ _⟩
 ·have hpos : 0 < zs.length := List.length_pos_iff.2 hz
  have hms : (zs.mergeSort fun x y => decide (x ≤ y)).length = zs.length := List.length_mergeSort zs
  generalize hc : zs.map (AV.int .i64) = cells at ho
  generalize hn : zs.length = n at ho
  cases ho with
  | nil => omega
  | row b n cap pre cells sp hb hcl hcap =>
   subst hc
   subst hn
   obtain ⟨a, rfl, hle, ha⟩ := rep_sl h0
   have hk := rep_slC h0 (by omega)
   obtain rfl := ha.resolve_left (by omega)
   have hu : upd g b ⟨pre ++ zs.map (AV.int .i64), sp⟩ b = some ⟨pre ++ zs.map (AV.int .i64), sp⟩ := upd_same _ _ _
   refine (AnyM.slices_Sort_int SortA b pre.length cap zs w (holds_of hh hu hk) (own_lt (hh b _ hu)) (by omega)).mono ?_
   rintro e w' ⟨rfl, q, os, rfl⟩
   obtain ⟨k1, k2⟩ := write_rep hh hu hk (ys := zs.mergeSort fun x y => decide (x ≤ y)) (m := zs.length) (sp' := sp) (by simp) (by omega) (by omega) q os
   rw [upd_upd, List.take_of_length_le (by omega)] at k1 k2
   exact ⟨_, _, _, rfl, ⟨rfl, .row b _ cap pre _ sp hb (by simp) hcap⟩, k1, .tup [] #[] rfl (fun i v c h => by simp at h), k2⟩
theorem compact_len (zs : List Int) : (Lib.compact zs).length ≤ zs.length := by
 unfold Lib.compact Lib.compactUpTo
 rw [List.length_map]
 exact Nat.le_trans (List.length_filter_le _ _) (by simp)
theorem Compact_own {g H : Heap} {v : AV} {zs : List Int} (ho : Own 1 g v (zs.map (AV.int .i64)) zs.length H) (hl : zs.length ≤ 1000000) :
  Spec Tryd.prog G 30 [v] H (fun r H' => Own 1 g r ((Lib.compact zs).map (AV.int .i64)) (Lib.compact zs).length H') := by
 intro w vs hh hg hr
 obtain ⟨v0, rfl⟩ : ∃ v0, vs = [v0] := by
  match vs, hr.1 with
  | [v], _ => exact ⟨v, rfl⟩
 have h0 := hr.2 0 _ _ rfl rfl
 by_cases hz : zs = []
 ·subst hz
  have hs : ∃ p cap, v0 = .slice p 0 cap := by
   generalize hc : ([] : List Int).map (AV.int .i64) = cells at ho
   generalize hn : ([] : List Int).length = n at ho
   cases ho with
   | nil => exact ⟨none, 0, rep_nils h0⟩
   | row b n cap pre cells sp hb hl hc =>
    obtain ⟨a, e, _⟩ := rep_sl h0
    rw [e, ← hn]; exact ⟨_, _, rfl⟩
  obtain ⟨p, cap, rfl⟩ := hs
  refine (Any.slices_Compact_int_empty CompA p cap w).mono ?_
  rintro e w' ⟨rfl, rfl⟩
  exact ⟨_, v, H, rfl, ho, hh, h0, Fr.refl _ _⟩
 ·have hpos : 0 < zs.length := List.length_pos_iff.2 hz
  have hcl2 := compact_len zs
  generalize hc : zs.map (AV.int .i64) = cells at ho
  generalize hn : zs.length = n at ho
  cases ho with
  | nil => omega
  | row b n cap pre cells sp hb hcl hcap =>
   subst hc
   subst hn
   obtain ⟨a, rfl, hle, ha⟩ := rep_sl h0
   have hk := rep_slC h0 (by omega)
   obtain rfl := ha.resolve_left (by omega)
   have hu : upd g b ⟨pre ++ zs.map (AV.int .i64), sp⟩ b = some ⟨pre ++ zs.map (AV.int .i64), sp⟩ := upd_same _ _ _
   refine (Any.slices_Compact_int CompA b pre.length cap zs w (holds_of hh hu hk) (by omega) hle).mono ?_
   rintro e w' ⟨rfl, q, rfl⟩
   obtain ⟨k1, k2⟩ := write_rep hh hu hk (ys := Lib.compact zs ++ List.replicate (zs.length - (Lib.compact zs).length) 0) (m := (Lib.compact zs).length) (sp' := sp + (zs.length - (Lib.compact zs).length)) (by simp; omega) (by simp) (by simp) q #[]
   rw [upd_upd, List.take_left', Sort.grow_empty] at k1 k2
   ·exact ⟨_, .sl b pre.length (Lib.compact zs).length cap, _, rfl, .row b _ cap pre _ _ hb (by simp) (by omega), k1, .sl b _ _ _ (by omega) (k2.cel b hk), k2⟩
   all_goals rfl
theorem compact_asc {zs : List Int} (hz : zs.Pairwise (· ≤ ·)) : (Lib.compact zs).Pairwise (· < ·) ∧ ∀ x, x ∈ Lib.compact zs ↔ x ∈ zs := by
 have hle : ∀ i j, i ≤ j → j < zs.length → zs.toArray[i]! ≤ zs.toArray[j]! := by
  intro i j hij hj
  by_cases e : i = j
  ·subst e; exact Int.le_refl _
  ·have := (List.pairwise_iff_getElem.1 hz) i j (by omega) hj (by omega)
   simpa [show i < zs.length by omega, hj] using this
 have hkeep : ∀ j, Lib.keeps zs.toArray j = true ↔ j = 0 ∨ zs.toArray[j]! ≠ zs.toArray[j - 1]! := by
  intro j
  simp [Lib.keeps]
 unfold Lib.compact Lib.compactUpTo
 refine ⟨?_, fun x => ?_⟩
 ·rw [List.pairwise_map]
  have hr : ((List.range zs.length).filter (Lib.keeps zs.toArray)).Pairwise (· < ·) := List.Pairwise.filter _ List.pairwise_lt_range
  refine List.Pairwise.imp_of_mem ?_ hr
  intro i j hi hj hij
  rw [List.mem_filter, List.mem_range] at hi hj
  have h1 := hle i (j - 1) (by omega) (by omega)
  have h2 := hle (j - 1) j (by omega) hj.1
  have h3 := ((hkeep j).1 hj.2).resolve_left (by omega)
  omega
 ·simp only [List.mem_map, List.mem_filter, List.mem_range]
  constructor
  ·rintro ⟨j, ⟨hj, _⟩, rfl⟩
   simp [hj]
  ·intro hx
   obtain ⟨j, hj, rfl⟩ := List.getElem_of_mem hx
   have : ∀ j, j < zs.length → ∃ i, (i < zs.length ∧ Lib.keeps zs.toArray i = true) ∧ zs.toArray[i]! = zs.toArray[j]! := by
    intro j
    induction j with
    | zero => intro h0; exact ⟨0, ⟨h0, (hkeep 0).2 (.inl rfl)⟩, rfl⟩
    | succ j ih =>
     intro hj
     by_cases e : zs.toArray[j + 1]! = zs.toArray[j]!
     ·obtain ⟨i, h1, h2⟩ := ih (by omega)
      exact ⟨i, h1, by rw [h2, e]⟩
     ·exact ⟨j + 1, ⟨hj, (hkeep _).2 (.inr (by simpa using e))⟩, rfl⟩
   obtain ⟨i, h1, h2⟩ := this j hj
   exact ⟨i, h1, by rw [h2]; simp [hj]⟩
end Go.Ab
end
section
namespace Go.Ab
open Go.Proofs
variable {G : Glo} {h : Heap}
theorem RamAt.subS {H H' : Heap} {l : Pl} {M : IRam} (hr : RamAt H l M) (hs : Sub H H') : RamAt H' l M := ⟨hr.ok, hr.wf, hs _ _ hr.hp, hs _ _ hr.hb, hs _ _ hr.hw, hs _ _ hr.hg⟩
theorem may_spec (x : IIt) (next : BitVec 32) {n : Nat} (hop : x.i.op = n) (h58 : n < 58) : Spec Tryd.prog G 16 [.agg x.cells, .int .u32 next.toNat] h (Is (.bool (mayN x next)) h) := by
 obtain ⟨i0, i1, i2, i3, i4, _⟩ := it_at x
 have hB := fun H : Heap => branch_spec (G := G) (h := H) n
 have hn : mayN x next = if next.toNat % 4 ≠ 0 then false else if n = 4 then true else if n = 3 then decide (next = x.pc + x.i.imm) else if brN n then decide (next = x.pc + 4#32 ∨ next = x.pc + x.i.imm) else decide (next = x.pc + 4#32) := by
  unfold mayN
  rw [hop]
  simp only [Int.toNat_natCast]
  congr 1
  by_cases h4 : n = 4
  ·rw [if_pos h4, if_pos (by omega)]
  ·rw [if_neg h4, if_neg (by omega)]
   by_cases h3 : n = 3
   ·rw [if_pos h3, if_pos (by omega)]
   ·rw [if_neg h3, if_neg (by omega)]
 rw [hn]
 clear hn
 rw [hop] at i2
 have e : (next.toNat : Int).tmod 4 = ((next.toNat % 4 : Nat) : Int) := rfl
 by_cases hm : next.toNat % 4 ≠ 0
 ·rw [if_pos hm]
  have z : ((next.toNat : Int).tmod 4 = 0) = False := by rw [e]; simp; omega
  refine Spec.is C16ok rfl ?_
  simp only [push_cast, simprocAttr, i1, i2, i3, i4, z]
 ·rw [if_neg hm]
  have z : ((next.toNat : Int).tmod 4 = 0) = True := by rw [e]; simp; omega
  by_cases h4 : n = 4
  ·rw [if_pos h4]
   have z4 : ((n : Int) = 4) = True := by simp; omega
   refine Spec.is C16ok rfl ?_
   simp only [push_cast, simprocAttr, i1, i2, i3, i4, z, z4]
  ·rw [if_neg h4]
   have z4 : ((n : Int) = 4) = False := by simp; omega
   by_cases h3 : n = 3
   ·rw [if_pos h3]
    have z3 : ((n : Int) = 3) = True := by simp; omega
    refine Spec.is C16ok rfl ?_
    simp only [push_cast, simprocAttr, i1, i2, i3, i4, z, z4, z3]
   ·rw [if_neg h3]
    have z3 : ((n : Int) = 3) = False := by simp; omega
    cases hbr : brN n with
    | false =>
     rw [hbr] at hB
     refine Spec.is C16ok rfl ?_
     simp only [push_cast, simprocAttr, i1, i2, i3, i4, z, z4, z3]
     refine (hB _).to ?_
     simp only [push_cast, simprocAttr, i1, i2, i3, i4, z, z4, z3]
     try simp
    | true =>
     rw [hbr] at hB
     by_cases h5 : next = x.pc + 4#32
     ·have z5 : decide (next = x.pc + 4#32) = true := decide_eq_true h5
      rw [if_pos rfl, decide_eq_true (.inl h5)]
      refine Spec.is C16ok rfl ?_
      simp only [push_cast, simprocAttr, i1, i2, i3, i4, z, z4, z3, z5]
      refine (hB _).to ?_
      simp only [push_cast, simprocAttr, i1, i2, i3, i4, z, z4, z3, z5]
      try simp [h5]
     ·have z5 : decide (next = x.pc + 4#32) = false := decide_eq_false h5
      rw [if_pos rfl, show decide (next = x.pc + 4#32 ∨ next = x.pc + x.i.imm) = decide (next = x.pc + x.i.imm) by simp [h5]]
      refine Spec.is C16ok rfl ?_
      simp only [push_cast, simprocAttr, i1, i2, i3, i4, z, z4, z3, z5]
      refine (hB _).to ?_
      simp only [push_cast, simprocAttr, i1, i2, i3, i4, z, z4, z3, z5]
      try simp [h5]
def pgsN (M : IRam) (L : List IIt) : List Int := (L.map fun x => M.page x.pc).filter fun p => decide (0 ≤ p)
theorem pgsN_snoc (M : IRam) (L : List IIt) (k : Nat) (hk : k < L.length) : pgsN M (L.take (k + 1)) = pgsN M (L.take k) ++ (if 0 ≤ M.page (L.getD k IIt.zero).pc then [M.page (L.getD k IIt.zero).pc] else []) := by
 unfold pgsN
 rw [List.take_succ_eq_append_getElem hk, List.map_append, List.filter_append]
 congr 1
 simp only [List.getD_eq_getElem?_getD, List.getElem?_eq_getElem hk, Option.getD_some, List.map_cons, List.map_nil, List.filter_cons, List.filter_nil, decide_eq_true_eq]
theorem pgsN_len (M : IRam) (L : List IIt) (k : Nat) : (pgsN M (L.take k)).length ≤ L.length := by
 unfold pgsN
 refine Nat.le_trans (List.length_filter_le _ _) ?_
 rw [List.length_map, List.length_take]; omega
def pgsC (M : IRam) (L : List IIt) : List Int := Lib.compact ((pgsN M L).mergeSort fun x y => decide (x ≤ y))
theorem pagesOf_spec {l : Pl} {M : IRam} (hr : RamAt h l M) (L : List IIt) (hl : L.length ≤ 1000) : Spec Tryd.prog G 14 [.ptr l.p 0, .ro (its L) L.length] h (Is (.ro ((pgsC M L).map (AV.int .i64)) (pgsC M L).length) h) := by
 refine Spec.weak (Q := fun r h' => Own 1 h r ((pgsC M L).map (AV.int .i64)) (pgsC M L).length h') ?_ (fun r h1 ho => ⟨_, _, ⟨rfl, rfl⟩, ho.freeze⟩)
 refine Spec.walk C14ok rfl ?_
 simp only [push_cast, simprocAttr]
 refine lpc.rel [0, 5, 9, 10, 11] (fun m ρ h' => ∃ (k : Nat) (v : AV), m = L.length - k ∧ k ≤ L.length ∧ Own 1 h v ((pgsN M (L.take k)).map (AV.int .i64)) (pgsN M (L.take k)).length h' ∧
  ρ = [(0, .ptr l.p 0), (5, v), (9, .ro (its L) L.length), (10, .int .i64 (L.length : Int)), (11, .int .i64 (k : Int))]) ⟨_, 0, .nils, rfl, by omega, .nil, rfl⟩ ?_
 rintro m _ h2 ⟨k, v, rfl, hk, hown, rfl⟩
 have hr2 : RamAt h2 l M := hr.subS hown.sub
 by_cases hk2 : k < L.length
 ·have hsn := pgsN_snoc M L k hk2
  have hln := pgsN_len M L k
  have e8 : partOf (its L) (k * 8) (some 8) = some (.agg (L.getD k IIt.zero).cells) := by
   have hl8 := its_len L
   rw [partOf_some, if_pos (by omega), its, flat_drop IIt.cells 8 L (fun x _ => (it_at x).1) k (by omega), List.drop_eq_getElem_cons hk2, List.flatMap_cons, List.take_append_of_le_length (by rw [(it_at _).1]; omega), List.take_of_length_le (by rw [(it_at _).1]; omega)]
   simp [List.getD_eq_getElem?_getD, hk2]
  generalize L.getD k IIt.zero = x at *
  obtain ⟨i0, i1, i2, i3, i4, _⟩ := it_at x
  have sp : ∀ a b c d e f g i : AV, splice [a, b, c, d, e, f, g, i] 0 x.cells = x.cells := fun _ _ _ _ _ _ _ _ => rfl
  have hP := Page_spec (G := G) hr2 x.pc
  generalize M.page x.pc = p at *
  simp (disch := omega) only [push_cast, simprocAttr, wrap_i64, toNat_ofInt64, Nat.min_eq_left, Int.toNat_of_nonneg, hk2, e8, i0, i1, sp]
  intro b7 hb7
  try rw [era_none hb7]
  try simp (disch := omega) only [push_cast, simprocAttr, wrap_i64, toNat_ofInt64, Nat.min_eq_left, Int.toNat_of_nonneg, i1]
  refine hP.to ?_
  by_cases hp : 0 ≤ p
  ·rw [if_pos hp] at hsn
   have hp' : p ≥ 0 := hp
   simp (disch := omega) only [push_cast, simprocAttr, wrap_i64, toNat_ofInt64, Nat.min_eq_left, Int.toNat_of_nonneg, hp']
   refine Own.app hown (m := 1) rfl (by omega) (by omega) fun v3 h3 ho3 => ?_
   simp (disch := omega) only [push_cast, simprocAttr, wrap_i64, toNat_ofInt64, Nat.min_eq_left, Int.toNat_of_nonneg, ho3.one]
   exact ⟨_, _, by omega, .refl _, k + 1, v3, rfl, by omega, by rw [hsn, List.map_append, List.length_append]; exact ho3, rfl⟩
  ·rw [if_neg hp, List.append_nil] at hsn
   have hp' : ¬ p ≥ 0 := hp
   simp (disch := omega) only [push_cast, simprocAttr, wrap_i64, toNat_ofInt64, Nat.min_eq_left, Int.toNat_of_nonneg, hp']
   exact ⟨_, _, by omega, .refl _, k + 1, v, rfl, by omega, by rw [hsn]; exact hown, rfl⟩
 ·obtain rfl : k = L.length := by omega
  rw [List.take_length] at hown
  have hln := pgsN_len M L L.length
  rw [List.take_length] at hln
  simp only [push_cast, simprocAttr, hk2]
  refine (Sort_own hown (by omega)).mono ?_
  rintro _ h3 ⟨rfl, ho3⟩
  have hms : ((pgsN M L).mergeSort fun x y => decide (x ≤ y)).length = (pgsN M L).length := List.length_mergeSort _
  rw [← hms] at ho3
  simp only [push_cast, simprocAttr]
  refine (Compact_own ho3 (by omega)).mono ?_
  rintro r h4 ho4
  simp only [push_cast, simprocAttr, ho4.one]
  exact ho4
end Go.Ab
end
section
namespace Go.Ab
open Go.Proofs
variable {G : Glo} {h : Heap}
def cntN (ps : List Int) (i : Int) : Nat := (ps.filter fun a => decide (a < i)).length
theorem cnt_no {ps : List Int} {i : Int} (hi : i ∉ ps) : cntN ps (i + 1) = cntN ps i := by
 unfold cntN
 congr 1
 refine List.filter_congr fun a ha => ?_
 have : a ≠ i := by rintro rfl; exact hi ha
 rw [decide_eq_decide]; omega
theorem cnt_at : ∀ {ps : List Int} {i : Int}, ps.Pairwise (· < ·) → i ∈ ps → ps[cntN ps i]? = some i ∧ cntN ps (i + 1) = cntN ps i + 1
 | [], i, _, h => by simp at h
 | a :: r, i, hp, h => by
  obtain ⟨h1, h2⟩ := List.pairwise_cons.1 hp
  by_cases e : a < i
  ·have hr : i ∈ r := by
    rcases List.mem_cons.1 h with e' | e'
    ·omega
    ·exact e'
   obtain ⟨k1, k2⟩ := cnt_at h2 hr
   unfold cntN at k1 k2 ⊢
   have e2 : a < i + 1 := by omega
   simp only [List.filter_cons, e, e2, decide_true, if_true, List.length_cons, List.getElem?_cons_succ]
   exact ⟨k1, by omega⟩
  ·have ha : a = i := by
    rcases List.mem_cons.1 h with e' | e'
    ·exact e'.symm
    ·have := h1 i e'; omega
   subst ha
   have f1 : r.filter (fun b => decide (b < a)) = [] := List.filter_eq_nil_iff.2 fun b hb => by have := h1 b hb; simp; omega
   have f2 : r.filter (fun b => decide (b < a + 1)) = [] := List.filter_eq_nil_iff.2 fun b hb => by have := h1 b hb; simp; omega
   unfold cntN
   have e1 : ¬ a < a := by omega
   have e2 : a < a + 1 := by omega
   simp [List.filter_cons, e1, e2, f1, f2]
theorem cnt_all {ps : List Int} {i : Int} (hi : ∀ a ∈ ps, a < i) : cntN ps i = ps.length := by
 unfold cntN
 rw [List.filter_eq_self.2]
 intro a ha
 simpa using hi a ha
theorem cnt_0 {ps : List Int} (hi : ∀ a ∈ ps, 0 ≤ a) : cntN ps 0 = 0 := by
 unfold cntN
 rw [List.filter_eq_nil_iff.2]
 ·rfl
 ·intro a ha; have := hi a ha; simp; omega
theorem page_of {M : IRam} {pc : BitVec 32} (h : okAt M pc = true) (hl : M.b.length ≤ 1024) : ∃ P : Nat, M.page pc = (P : Int) ∧ P < 16 := by
 obtain ⟨_, h2⟩ := asked4 (okAt_asked h).1
 unfold hasN at h2
 simp only [Bool.and_eq_true, decide_eq_true_eq] at h2
 refine ⟨(pc.toNat - 2147483648) / 64, ?_, by omega⟩
 unfold IRam.page
 rw [if_pos]
 unfold hasN
 simp only [Bool.and_eq_true, decide_eq_true_eq]
 omega
theorem pgsC_ok (M : IRam) (L : List IIt) : (pgsC M L).Pairwise (· < ·) ∧ ∀ p, p ∈ pgsC M L ↔ 0 ≤ p ∧ ∃ (i : Nat) (x : IIt), L[i]? = some x ∧ M.page x.pc = p := by
 have h1 := List.pairwise_mergeSort (le := fun x y : Int => decide (x ≤ y)) (fun a b c h1 h2 => by simp only [decide_eq_true_eq] at *; omega) (fun a b => by simp only [Bool.or_eq_true, decide_eq_true_eq]; omega) (pgsN M L)
 have h2 : ((pgsN M L).mergeSort fun x y => decide (x ≤ y)).Pairwise (· ≤ ·) := h1.imp fun h => by simpa using h
 obtain ⟨k1, k2⟩ := compact_asc h2
 refine ⟨k1, fun p => ?_⟩
 unfold pgsC
 rw [k2, (List.mergeSort_perm (pgsN M L) fun x y => decide (x ≤ y)).mem_iff]
 unfold pgsN
 simp only [List.mem_filter, List.mem_map, decide_eq_true_eq]
 constructor
 ·rintro ⟨⟨x, hx, rfl⟩, h0⟩
  obtain ⟨i, hi, e⟩ := List.getElem_of_mem hx
  exact ⟨h0, i, x, by rw [List.getElem?_eq_getElem hi, e], rfl⟩
 ·rintro ⟨h0, i, x, hx, rfl⟩
  exact ⟨⟨x, List.mem_of_getElem? hx, rfl⟩, h0⟩
theorem its_at (L : List IIt) {k : Nat} (hk : k < L.length) : (its L)[k * 8]? = some (.int .u32 ((L.getD k IIt.zero).pc.toNat : Int)) ∧ (its L)[k * 8 + 7]? = some (.int .u32 ((L.getD k IIt.zero).next.toNat : Int)) ∧
  partOf (its L) (k * 8) (some 8) = some (.agg (L.getD k IIt.zero).cells) ∧ partOf (its L) (k * 8 + 1) (some 6) = some (.agg (L.getD k IIt.zero).i.cells) := by
 have e0 := flat_getD IIt.cells 8 L IIt.zero (fun x => (it_at x).1) k 0 (by omega)
 have e7 := flat_getD IIt.cells 8 L IIt.zero (fun x => (it_at x).1) k 7 (by omega)
 rw [if_pos hk] at e0 e7
 rw [Nat.add_zero] at e0
 have hl8 := its_len L
 have hd : (its L).drop (k * 8) = (L.getD k IIt.zero).cells ++ its (L.drop (k + 1)) := by
  rw [its, flat_drop IIt.cells 8 L (fun x _ => (it_at x).1) k (by omega), List.drop_eq_getElem_cons hk, List.flatMap_cons]
  simp [List.getD_eq_getElem?_getD, hk, its]
 refine ⟨e0.trans (it_at _).2.1, e7.trans (it_at _).2.2.2.2.1, ?_, ?_⟩
 ·rw [partOf_some, if_pos (by omega), hd, List.take_append_of_le_length (by rw [(it_at _).1]; omega), List.take_of_length_le (by rw [(it_at _).1]; omega)]
 ·rw [partOf_some, if_pos (by omega), show k * 8 + 1 = k * 8 + 1 from rfl, ← List.drop_drop, hd]
  rfl
theorem item_facts {M : IRam} {L : List IIt} (hok : WkOk M L) (hM : M.b.length ≤ 1024) {k : Nat} (hk : k < L.length) : ∃ (w : BitVec 32) (n P : Nat), n < 58 ∧ (L.getD k IIt.zero).i = laidN w n ∧ (L.getD k IIt.zero).i.op = n ∧ canN w n = true ∧ M.page (L.getD k IIt.zero).pc = P ∧ P < 16 := by
 have hx : L[k]? = some (L.getD k IIt.zero) := by rw [List.getD_eq_getElem?_getD, List.getElem?_eq_getElem hk]; rfl
 obtain ⟨h1, h2, _⟩ := hok k _ hx
 obtain ⟨P, hP, hP2⟩ := page_of h1 hM
 refine ⟨_, _, P, kindK_lt _, h2.trans (dec_laid _), ?_, (okAt_asked h1).2, hP, hP2⟩
 rw [h2, dec_laid]; rfl
end Go.Ab
end
section
namespace Go.Ab
open Go.Proofs
variable {G : Glo} {h : Heap}
theorem bos_at (bs : List Bool) {i : Nat} (hi : i < bs.length) : (bos bs)[i]? = some (.bool (bs.getD i false)) := by simp [bos, List.getD_eq_getElem?_getD, hi]
theorem rep_f (n p : Nat) : (List.replicate n false).getD p false = false := by
 rw [List.getD_eq_getElem?_getD, List.getElem?_replicate]
 split <;> rfl
theorem lawGoes_spec (hG : GF G) (b : List (BitVec 8)) (w : IWay) : Spec Tryd.prog G 4 [byt b, .agg w.cells] h (Is (.bool true) h) := by
 obtain ⟨pc, T, most⟩ := w
 have hR := fun H : Heap => right10_spec (G := G) (h := H) b.length
 have hA := fun H : Heap => awake26_spec (G := G) (h := H) hG
 cases hr : rightN b.length with
 | false =>
  rw [hr] at hR
  refine Spec.is C4ok rfl ?_
  simp only [push_cast, simprocAttr, IWay.cells]
  refine (hR _).to ?_
  simp only [push_cast, simprocAttr]
  refine (hA _).to ?_
  simp only [push_cast, simprocAttr]
 | true =>
  rw [hr] at hR
  by_cases hl : b.length ≤ 1024
  ·have zl : ((b.length : Int) > 1024) = False := by simp; omega
   by_cases ht : T.length ≤ 100
   ·have zt : ((T.length : Int) > 100) = False := by simp; omega
    have hok := walk_ok (memN b) (min most 32).toNat pc T
    obtain ⟨L, hL⟩ : ∃ L, walkN pathOn (memN b) (min most 32).toNat pc T = L := ⟨_, rfl⟩
    have hlen : L.length ≤ 32 := by rw [← hL]; exact walk_most _ _ _ _ _
    have hMem := fun H : Heap => memory_spec (G := G) (h := H) b hr
    have hRow := fun (H : Heap) (l : Pl) (hr : RamAt H l (memN b)) => Path_spec hG hr pc T most
    rw [hL] at hRow hok
    clear hL
    have hMl : (memN b).b.length ≤ 1024 := hl
    generalize memN b = M at *
    obtain ⟨asc, mem⟩ := pgsC_ok M L
    have hpl : (pgsC M L).length ≤ 32 := by
     have h1 := compact_len ((pgsN M L).mergeSort fun x y => decide (x ≤ y))
     have h2 : ((pgsN M L).mergeSort fun x y => decide (x ≤ y)).length = (pgsN M L).length := List.length_mergeSort _
     have h3 := pgsN_len M L L.length
     rw [List.take_length] at h3
     unfold pgsC
     omega
    have hPg := fun (H : Heap) (l : Pl) (hr : RamAt H l M) => pagesOf_spec (G := G) hr L (by omega)
    have hps : ∀ p ∈ pgsC M L, 0 ≤ p ∧ p < 16 := by
     intro p hp
     obtain ⟨h0, i, x, hx, e⟩ := (mem p).1 hp
     obtain ⟨P, hP, hP2⟩ := page_of (hok i x hx).1 hMl
     omega
    refine Spec.is C4ok rfl ?_
    simp only [push_cast, simprocAttr, IWay.cells]
    refine (hR _).to ?_
    simp only [push_cast, simprocAttr, zl, zt]
    refine (hMem _).mono ?_
    rintro _ H ⟨l, rfl, hra, hnew, hold⟩
    simp only [push_cast, simprocAttr]
    refine (hRow _ l hra).to ?_
    simp only [push_cast, simprocAttr]
    refine (hPg _ l hra).to ?_
    simp only [push_cast, simprocAttr]
    intro c hc
    refine lpc.rel [5, 6, 7, 8, 9] (fun m ρ h' => ∃ (k : Nat) (bs : List Bool), m = L.length - k ∧ k ≤ L.length ∧ h' = Ab.upd H c ⟨bos bs, 0⟩ ∧ bs.length = 16 ∧ (∀ p : Nat, p < 16 → (bs.getD p false = true ↔ ∃ i, i < k ∧ M.page (L.getD i IIt.zero).pc = p)) ∧
     ρ = [(5, .ptr l.p 0), (6, .ro (its L) L.length), (7, .ro ((pgsC M L).map (AV.int .i64)) (pgsC M L).length), (8, .sl c 0 16 16), (9, .int .i64 (k : Int))]) ⟨_, 0, List.replicate 16 false, rfl, by omega, rfl, rfl, fun p hp => by rw [rep_f]; simp, rfl⟩ ?_
    rintro m _ _ ⟨k, bs, rfl, hk, rfl, hbl, hbs, rfl⟩
    have hra2 : ∀ X, RamAt (Ab.upd H c X) l M := fun X => hra.upd (hra.not hc)
    by_cases hk2 : k < L.length
    ·obtain ⟨e0, e7, e8, e6⟩ := its_at L hk2
     obtain ⟨w', n, P, hn58, hi, hop, hcan, hP, hP16⟩ := item_facts hok hMl hk2
     have hxk : L[k]? = some (L.getD k IIt.zero) := by rw [List.getD_eq_getElem?_getD, List.getElem?_eq_getElem hk2]; rfl
     have hnx := (hok k _ hxk).2.2
     have hC := fun X => Can_spec (G := G) (h := Ab.upd H c X) hG w' n hn58
     have hMy := fun X => may_spec (G := G) (h := Ab.upd H c X) (L.getD k IIt.zero) (L.getD k IIt.zero).next hop hn58
     have hPa := fun X => Page_spec (G := G) (hra2 X) (L.getD k IIt.zero).pc
     have hbs' : ∀ p : Nat, p < 16 → ((bs.set P true).getD p false = true ↔ ∃ i, i < k + 1 ∧ M.page (L.getD i IIt.zero).pc = p) := by
      intro p hp
      simp only [List.getD_eq_getElem?_getD, List.getElem?_set] at hbs ⊢
      by_cases e : P = p
      ·subst e
       simp only [if_true, show P < bs.length by omega, Option.getD_some, true_iff]
       exact ⟨k, by omega, by rw [← List.getD_eq_getElem?_getD]; exact hP⟩
      ·simp only [e, if_false]
       rw [hbs p hp]
       constructor
       ·rintro ⟨i, h1, h2⟩; exact ⟨i, by omega, h2⟩
       ·rintro ⟨i, h1, h2⟩
        by_cases hik : i = k
        ·subst hik
         rw [← List.getD_eq_getElem?_getD, hP] at h2
         omega
        ·exact ⟨i, by omega, h2⟩
     rw [hcan] at hC
     rw [hP] at hPa
     rw [hi] at e6
     have hcx : ∀ X, Ab.upd H c X c = some X := fun X => upd_same _ _ _
     have zP : ((P : Int) < 0) = False := by simp
     have tP : ((P : Int)).toNat = P := by simp
     have zP2 : ((P : Int) < 16) = True := by simp; omega
     have sP : splice (bos bs) P [AV.bool true] = bos (bs.set P true) := by simp [splice, bos, List.map_set]
     have lP : (P + 1 ≤ (bos bs).length) = True := by simp [bos, hbl]; omega
     by_cases hk3 : k + 1 < L.length
     ·obtain ⟨f0, _, _, _⟩ := its_at L hk3
      have hyk : L[k + 1]? = some (L.getD (k + 1) IIt.zero) := by rw [List.getD_eq_getElem?_getD, List.getElem?_eq_getElem hk3]; rfl
      obtain ⟨q1, q2⟩ := hnx _ hyk
      rw [q2] at hMy
      rw [← q1] at f0
      generalize L.getD k IIt.zero = x at *
      have zk : ((k : Int) + 1 < (L.length : Int)) = True := by simp; omega
      have tk : ((k : Int) + 1).toNat = k + 1 := by omega
      have hbb : (x.next != x.next) = false := by simp
      simp (disch := omega) only [push_cast, simprocAttr, wrap_i64, toNat_ofInt64, Nat.min_eq_left, Int.toNat_of_nonneg, hk2, hk3, e0, e6, e7, e8, f0, zk, tk, hbb]
      refine (hC _).to ?_
      simp (disch := omega) only [push_cast, simprocAttr, wrap_i64, toNat_ofInt64, Nat.min_eq_left, Int.toNat_of_nonneg, hk2, hk3, e0, e6, e7, e8, f0, zk, tk, hbb]
      refine ⟨by omega, (hMy _).to ?_⟩
      simp (disch := omega) only [push_cast, simprocAttr, wrap_i64, toNat_ofInt64, Nat.min_eq_left, Int.toNat_of_nonneg, hk2, hk3, e0, e6, e7, e8, f0, zk, tk, hbb]
      refine (hPa _).to ?_
      simp (disch := omega) only [push_cast, simprocAttr, wrap_i64, toNat_ofInt64, Nat.min_eq_left, Int.toNat_of_nonneg, hk2, e0, zP]
      refine (hPa _).to ?_
      simp (disch := omega) only [push_cast, simprocAttr, wrap_i64, toNat_ofInt64, Nat.min_eq_left, Int.toNat_of_nonneg, hk2, e0, zP, tP, zP2, hcx, sP, lP]
      refine ⟨by omega, ?_⟩
      exact ⟨_, _, by omega, .refl _, k + 1, bs.set P true, rfl, by omega, rfl, by simp [hbl], hbs', rfl⟩
     ·generalize L.getD k IIt.zero = x at *
      have zk : ((k : Int) + 1 < (L.length : Int)) = False := by simp; omega
      simp (disch := omega) only [push_cast, simprocAttr, wrap_i64, toNat_ofInt64, Nat.min_eq_left, Int.toNat_of_nonneg, hk2, hk3, e0, e6, e7, e8, zk]
      refine (hC _).to ?_
      simp (disch := omega) only [push_cast, simprocAttr, wrap_i64, toNat_ofInt64, Nat.min_eq_left, Int.toNat_of_nonneg, hk2, hk3, e0, e6, e7, e8, zk]
      refine (hPa _).to ?_
      simp (disch := omega) only [push_cast, simprocAttr, wrap_i64, toNat_ofInt64, Nat.min_eq_left, Int.toNat_of_nonneg, hk2, e0, zP]
      refine (hPa _).to ?_
      simp (disch := omega) only [push_cast, simprocAttr, wrap_i64, toNat_ofInt64, Nat.min_eq_left, Int.toNat_of_nonneg, hk2, e0, zP, tP, zP2, hcx, sP, lP]
      refine ⟨by omega, ?_⟩
      exact ⟨_, _, by omega, .refl _, k + 1, bs.set P true, rfl, by omega, rfl, by simp [hbl], hbs', rfl⟩
    ·obtain rfl : k = L.length := by omega
     have hmet : ∀ p : Nat, p < 16 → (bs.getD p false = true ↔ (p : Int) ∈ pgsC M L) := by
      intro p hp
      rw [hbs p hp, mem]
      constructor
      ·rintro ⟨i, h1, h2⟩
       exact ⟨by omega, i, L.getD i IIt.zero, by rw [List.getD_eq_getElem?_getD, List.getElem?_eq_getElem h1]; rfl, h2⟩
      ·rintro ⟨_, i, x, hx, e⟩
       have hi := (List.getElem?_eq_some_iff.1 hx).1
       exact ⟨i, hi, by rw [List.getD_eq_getElem?_getD, hx]; exact e⟩
     have hc0 := cnt_0 (ps := pgsC M L) fun a ha => (hps a ha).1
     have hc16 := cnt_all (ps := pgsC M L) (i := 16) fun a ha => (hps a ha).2
     have hcx : ∀ X, Ab.upd H c X c = some X := fun X => upd_same _ _ _
     generalize pgsC M L = ps at *
     simp only [push_cast, simprocAttr, hk2]
     refine lpc.rel [7, 8, 10, 11] (fun m ρ h' => ∃ i : Nat, m = 16 - i ∧ i ≤ 16 ∧ h' = Ab.upd H c ⟨bos bs, 0⟩ ∧ ρ = [(7, .ro (ps.map (AV.int .i64)) ps.length), (8, .sl c 0 16 16), (10, .int .i64 (cntN ps (i : Int) : Int)), (11, .int .i64 (i : Int))]) ⟨_, 0, rfl, by omega, rfl, by rw [show ((0 : Nat) : Int) = 0 from rfl, hc0]; rfl⟩ ?_
     rintro m _ _ ⟨i, rfl, hi, rfl, rfl⟩
     by_cases hi2 : i < 16
     ·have e := bos_at bs (i := i) (by omega)
      have zi : ((i : Int) < 16) = True := by simp; omega
      have ti : ((i : Int)).toNat = i := by simp
      cases hb : bs.getD i false with
      | true =>
       rw [hb] at e
       have hm := (hmet i hi2).1 hb
       obtain ⟨k1, k2⟩ := cnt_at asc hm
       have hcl : cntN ps (i : Int) < ps.length := (List.getElem?_eq_some_iff.1 k1).1
       have e2 : (ps.map (AV.int .i64))[cntN ps (i : Int)]? = some (.int .i64 (i : Int)) := by simp [k1]
       have zc : ((cntN ps (i : Int) : Int) ≥ (ps.length : Int)) = False := by simp; omega
       have zb : ((i : Int) != (i : Int)) = false := by simp
       simp (disch := omega) only [push_cast, simprocAttr, wrap_i64, toNat_ofInt64, Nat.min_eq_left, Int.toNat_of_nonneg, e, zi, ti, hcx, zc, e2, hcl, zb]
       exact ⟨_, _, by omega, .refl _, i + 1, rfl, by omega, rfl, by rw [show ((i + 1 : Nat) : Int) = (i : Int) + 1 from rfl, k2]; rfl⟩
      | false =>
       rw [hb] at e
       have hm : (i : Int) ∉ ps := fun hm => by rw [(hmet i hi2).2 hm] at hb; cases hb
       have k2 := cnt_no hm
       simp (disch := omega) only [push_cast, simprocAttr, wrap_i64, toNat_ofInt64, Nat.min_eq_left, Int.toNat_of_nonneg, e, zi, ti, hcx]
       exact ⟨_, _, by omega, .refl _, i + 1, rfl, by omega, rfl, by rw [show ((i + 1 : Nat) : Int) = (i : Int) + 1 from rfl, k2]; rfl⟩
     ·obtain rfl : i = 16 := by omega
      have hc16' : cntN ps ((16 : Nat) : Int) = ps.length := hc16
      have zb : ((ps.length : Int) == (ps.length : Int)) = true := by simp
      rw [hc16']
      simp only [push_cast, simprocAttr, zb]
      refine (hA _).to ?_
      simp only [push_cast, simprocAttr]
      exact (mem_sub (M := M) hnew hold).alloc hc
   ·have zt : ((T.length : Int) > 100) = True := by simp; omega
    refine Spec.is C4ok rfl ?_
    simp only [push_cast, simprocAttr, IWay.cells]
    refine (hR _).to ?_
    simp only [push_cast, simprocAttr, zl, zt]
    refine (hA _).to ?_
    simp only [push_cast, simprocAttr]
  ·have zl : ((b.length : Int) > 1024) = True := by simp; omega
   refine Spec.is C4ok rfl ?_
   simp only [push_cast, simprocAttr, IWay.cells]
   refine (hR _).to ?_
   simp only [push_cast, simprocAttr, zl]
   refine (hA _).to ?_
   simp only [push_cast, simprocAttr]
end Go.Ab
end
section
namespace Go.Ab
open Go.Proofs Go.ChangeShapes Go.WideShapes Go.ChangeAt Go.RowKit
theorem rep_tab {w : World} {O : Nat → Prop} {k : IntKind} {zs : List Int} {g : Nat} (h0 : 0 < zs.length) (hO : ¬ O g) (hc : ∀ i, i < zs.length → w.cell? ⟨g, i, none⟩ = some (.int k (zs.getD i 0))) :
  Rep w O (.cp (zs.map (.int k)) 0) (.pointer (some ⟨g, 0, none⟩)) := by
 have hb : g < w.heap.size := by
  have h := hc 0 h0
  by_cases hlt : g < w.heap.size
  ·exact hlt
  ·have e : w.heap[g]? = none := Array.getElem?_eq_none (Nat.not_lt.1 hlt)
   simp [World.cell?, e] at h
 refine .cp (zs.map (.int k)) 0 g 0 (fun i => .int k (zs.getD i 0)) hb hO (fun i v hv => ?_) (fun i v hv => ?_)
 ·rw [List.getElem?_map] at hv
  obtain ⟨z, hz, rfl⟩ := Option.map_eq_some_iff.1 hv
  have hlt := (List.getElem?_eq_some_iff.1 hz).1
  exact ⟨by rw [Nat.zero_add]; exact hc i hlt, rfl⟩
 ·rw [List.getElem?_map] at hv
  obtain ⟨z, hz, rfl⟩ := Option.map_eq_some_iff.1 hv
  have : zs.getD i 0 = z := by simp [List.getD, hz]
  rw [this]
  exact .int k z
theorem law_callsT {P : Program} {w : World} {f : FuncId} {args : List AV} {vs : List Value} {g : Nat → AV} (hs : Spec P (Glo.of g) f args noH (fun r _ => r = .bool true)) (hg : ∀ j, Rep w NoO (g j) (.pointer (some ⟨j, 0, none⟩))) (hr : RepL w NoO args vs) :
  Calls P f vs.toArray w fun e w' => e = .returned (.bool true) ∧ Below w.heap.size w w' := by
 refine (hs w vs (fun b x h => by cases h) ⟨fun j => by rw [noH_dom]; exact hg j, fun _ _ e => e.elim⟩ (by rw [noH_dom]; exact hr)).mono ?_
 rintro e w' ⟨v, r, h', rfl, rfl, _, h3, h4⟩
 refine ⟨by rw [rep_bool h3], ⟨h4.os, h4.tape, h4.out, h4.size, fun k hk => (h4.blk k hk rfl).2⟩⟩
end Go.Ab
end
section
namespace Go.Ab
open Go.Proofs Go.ChangeShapes Go.WideShapes Go.ChangeAt Go.RowKit
def formZ : List Int := formL.map fun n : Nat => (n : Int)
theorem formZ_C : formZ.map (AV.int .i64) = formC := by simp [formZ, formC]
theorem gForms : Tryd.prog.globalNamed "mimesis/inst.forms" = some 0 := by kernel_rfl
theorem tForms : (Tryd.prog.globals[0]?).map (·.type) = some 123 := by kernel_rfl
theorem uForms : Tryd.prog.underlying 123 = some (.array 58 3) := by kernel_rfl
theorem cForms : Tryd.prog.cellsOf 123 = 58 := by kernel_rfl
theorem uInt : Tryd.prog.underlying 3 = some (.int .i64) := by kernel_rfl
theorem cInt : Tryd.prog.cellsOf 3 = 1 := by kernel_rfl
theorem forms_of {w : World} (h : laidMetH Tryd.prog [("mimesis/inst.forms", YtknamhmjhmdikaaDoor.Rows.laid_mimesis_inst_forms)] w) : Rep w NoO (.cp formC 0) (.pointer (some ⟨0, 0, none⟩)) := by
 rw [MakeChecks.laidMetH_plain _ _ _ (by kernel_rfl)] at h
 have ht : Lib.TabIs Tryd.prog w "mimesis/inst.forms" .i64 formZ := Lib.tabIs_of_head gForms tForms uForms uInt cInt cForms h
 rw [← formZ_C]
 exact rep_tab (by decide) (fun h => h) fun i hi => ht.cell gForms i hi
def gF : Nat → AV := fun g => if g = 0 then .cp formC 0 else .any
theorem gF_ok : GF (Glo.of gF) := rfl
theorem gF_rep {w : World} (h : laidMetH Tryd.prog [("mimesis/inst.forms", YtknamhmjhmdikaaDoor.Rows.laid_mimesis_inst_forms)] w) (j : Nat) : Rep w NoO (gF j) (.pointer (some ⟨j, 0, none⟩)) := by
 rw [gF]
 split
 ·rename_i e; rw [e]; exact forms_of h
 ·exact .any _
end Go.Ab
end
section
namespace Go.Proofs.YtknamhmjhmdikaaDoor
open Go.ChangeShapes Go.WideShapes Go.ChangeAt Go.RowKit Go.Ab

theorem ownScanGoes : ownKnob Tryd.prog.godebug = none := by kernel_rfl
theorem laidOutScanGoes : laidOutB Tryd.prog = true := by kernel_rfl
theorem tdScanGoes0 : tdOf Tryd.prog 8 43 = some (.sl (.i .u8)) := by kernel_rfl
theorem tdScanGoes1 : tdOf Tryd.prog 8 46 = some (tdWay) := by kernel_rfl
theorem doorScanGoes (os : Os) (args : Array Value) : laidMetH Tryd.prog [("mimesis/inst.forms", Rows.laid_mimesis_inst_forms)] ((World.doorLaid Tryd.prog 400 os).forCall (fun _ _ => 0) ⟨#[], args, []⟩).memory :=
 laidMetH_of_parts3 (fuel := 8) (laidMet_of_run' 8 (by kernel_rfl) (by kernel_rfl)) (by kernel_rfl) (by kernel_rfl)
set_option maxRecDepth 100000 in
theorem liftedScanGoes (os : Os) (started : os.Started) (H : Type) (enc : TypeId × Value → H) :
  ReturnsInHanded {} Tryd.checked os 4 .any (fun w args => (Rows.scanGoesSpec.pre enc Tryd.prog Tryd.f4 [] false w args ∧ laidMetH Tryd.prog [("mimesis/inst.forms", Rows.laid_mimesis_inst_forms)] w) ∧ sizedMet enc Tryd.prog Tryd.f4 (OpenSpec.ofChange Rows.scanGoesSpec) false w args)
   (Rows.scanGoesSpec.post enc Tryd.prog Tryd.f4 false true false false) := by
 refine returnsInHanded_of_change_and (C := Tryd.checked) (X := fun w _ => laidMetH Tryd.prog [("mimesis/inst.forms", Rows.laid_mimesis_inst_forms)] w) (fun _ _ _ hh h => h.of_heap hh) ownScanGoes started (by kernel_rfl) Tryd.func4
  (ChangeSpec.witness_shaped (enc := enc) (C := Tryd.checked) (os := os) (X := fun w _ => laidMetH Tryd.prog [("mimesis/inst.forms", Rows.laid_mimesis_inst_forms)] w) false (World.doorLaid Tryd.prog 400 os) #[.slice none 0 0, .agg #[.int .u32 0, .slice none 0 0, .int .i64 0]] 8 rfl (World.shaped_of_RefB (by kernel_rfl) (by kernel_rfl)) (by kernel_rfl) (by kernel_rfl) (by kernel_rfl) (doorScanGoes os _)) ?_
 intro W base args ds gs before hval0 hW _ _ hL _
 have hval : ∀ (j : Nat) t v, Tryd.f4.params[j]? = some t → args[j]? = some v → Value.okWide Tryd.prog W .any base t v := hval0
 have hW' := hW
 obtain ⟨p, q, hA0, hV, rfl, hfz, hnd⟩ := hW
 have hA : DataW.TrodAll enc Tryd.prog W 0 (fun _ => true) true Tryd.f4.params.toList args.toList ds p := hA0
 rw [Tryd.params4] at hA hval
 obtain ⟨v0, vs0, d0, ds0, p0, q0, hargs, rfl, rfl, h0, r0⟩ := trodAll_cons hA
 obtain ⟨v1, vs1, d1, ds1, p1, q1, rfl, rfl, rfl, h1, r1⟩ := trodAll_cons r0
 obtain ⟨rfl, rfl, rfl⟩ := trodAll_nil r1
 obtain rfl : args = #[v0, v1] := by cases args; simp_all
 obtain ⟨rfl, rfl⟩ := trodVars_none hV
 have k0 := h0
 have lt0 : ∀ x ∈ p0, x.block < W.heap.size := by obtain ⟨m, hm⟩ := k0; exact DataW.trod_lt m _ _ _ hm
 obtain ⟨av0, dt0, rp0⟩ := arg_of (hval 0 43 v0 rfl rfl) h0 tdScanGoes0
 obtain ⟨x0, _, rfl⟩ := dat_bytes dt0
 have k1 := h1
 have lt1 : ∀ x ∈ p1, x.block < W.heap.size := by obtain ⟨m, hm⟩ := k1; exact DataW.trod_lt m _ _ _ hm
 obtain ⟨av1, dt1, rp1⟩ := arg_of (hval 1 46 v1 rfl rfl) h1 tdScanGoes1
 obtain ⟨x1, _, rfl⟩ := dat_way dt1
 clear hA0 hval0
 refine (law_callsT ((lawGoes_spec gF_ok x0 x1).mono fun r _ e => e.1) (gF_rep hL) ((RepL.nil.cons rp1).cons rp0)).mono fun e W' ⟨he, bel⟩ => ?_
 subst he
 exact ⟨_, rfl, _, _, _, [], _, [], hW', trodAll_mk1 (shut_bool Tryd.underlying4 _), (trodAll_cons_mk (Below.trod laidOutScanGoes (by kernel_rfl) (of_decide_eq_true (by kernel_rfl)) k0 bel lt0) (trodAll_cons_mk (Below.trod laidOutScanGoes (by kernel_rfl) (of_decide_eq_true (by kernel_rfl)) k1 bel lt1) trodAll_mk0)), rfl, bel.frame _, fun h => by cases h⟩
theorem overScanGoes : Rows.scanGoesRow.holds Tryd.pinned (OpenSpec.ofChange Rows.scanGoesSpec) :=
 OpenClaim.holds_of_wide 4 Tryd.f4 rfl rfl rfl rfl rfl rfl rfl ⟨rfl, rfl, rfl, rfl, rfl⟩ rfl rfl rfl rfl rfl (by kernel_rfl) Tryd.func4 (by kernel_rfl)
  (of_decide_eq_true (by kernel_rfl)) (by unfold Func.isWrapper; first | (rw [if_pos (by decide +kernel)]; kernel_rfl) | (rw [if_neg (by decide +kernel)]; exact ⟨rfl, rfl⟩))
  (fun os started H enc _ => liftedScanGoes os started H enc)
theorem provedScanGoesCardSaid : Rows.ScanGoesCardSaid :=
 Claim7.holds_tied_plain_at .later [] [.data] true Rows.scanGoesCard.stood.harness false
  overScanGoes (fun _ h => by cases h) (by kernel_rfl) (fun _ h => by cases h) scanGoes_row_tie rfl ⟨rfl, rfl⟩ (by kernel_rfl) rfl
  (fun f fn hf hfn => by
   obtain rfl : f = 4 := Option.some.inj ((show Tryd.prog.funcNamed "mimesis/mimesislaw26.ScanGoes" = some 4 by kernel_rfl).symm.trans hf) |>.symm
   obtain rfl : fn = Tryd.f4 := (Option.some.inj (Tryd.func4.symm.trans hfn)).symm
   exact ⟨by kernel_rfl, fun j t ht => by
    rw [Tryd.params4] at ht
    have hm : t ∈ [43, 46] := by simpa using Array.mem_of_getElem? ht
    have hall : ([43, 46].all fun u => !Tryd.prog.wantsStandIn u) = true := by kernel_rfl
    exact (show Tryd.prog.wantsStandIn t = false by simpa using List.all_eq_true.1 hall t hm)⟩)
  (by kernel_rfl)
end Go.Proofs.YtknamhmjhmdikaaDoor
end
