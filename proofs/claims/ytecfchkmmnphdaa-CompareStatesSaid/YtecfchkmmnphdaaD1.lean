/- Data that several packages share: events, differences, states; how their cells lie. -/
import Derived.Test.YtecfchkmmnphdaaLib2
set_option linter.unusedSimpArgs false
set_option linter.unusedVariables false
namespace Go.Ab
variable {G : Glo} {h : Heap}
structure Ev where
  kind : Int
  tick : Int
  value : Int
  cause : Int
  epc : Int
  tval : Int
  regs : List Int
  csrs : List Int
  deriving DecidableEq
def u32s (l : List Int) : List AV := l.map (.int .u32)
def Ev.cells (e : Ev) : List AV := [.int .i64 e.kind, .int .u64 e.tick, .int .u32 e.value, .int .u32 e.cause, .int .u32 e.epc, .int .u32 e.tval] ++ (u32s e.regs ++ u32s e.csrs)
def Ev.ok (e : Ev) : Prop := e.regs.length = 32 ∧ e.csrs.length = 7
theorem Ev.len {e : Ev} (h : e.ok) : e.cells.length = 45 := by simp [Ev.cells, u32s, h.1, h.2]
/-- Events, as data. -/
def evs (l : List Ev) : AV := .ro (l.flatMap Ev.cells) l.length
def evFrom (xs ys : List Ev) (d k : Nat) : Int :=
  match d with
  | 0 => if xs.length = ys.length then -1 else min xs.length ys.length
  | d + 1 => if xs[k]? = ys[k]? then evFrom xs ys d (k + 1) else k
theorem cellsEq_u32 : ∀ (xs ys : List Int) (ks : List CK), ks = List.replicate xs.length .i → xs.length = ys.length → cellsEq ks (u32s xs) (u32s ys) = some (decide (xs = ys)) := by
  intro xs
  induction xs with
  | nil => intro ys ks hk hl; subst hk; cases ys with
    | nil => rfl
    | cons _ _ => simp at hl
  | cons x r ih =>
    intro ys ks hk hl
    cases ys with
    | nil => simp at hl
    | cons y s =>
      subst hk
      simp only [List.length_cons, List.replicate_succ, u32s, List.map_cons, cellsEq, if_true]
      have := ih s _ rfl (by simpa using hl)
      simp only [u32s] at this
      rw [this]
      simp only [Option.map_some, Option.some.injEq]
      rw [Bool.eq_iff_iff]
      simp
theorem cellsEq_join : ∀ (ks ls : List CK) (a b c d : List AV) (s t : Bool), cellsEq ks a b = some s → cellsEq ls c d = some t → cellsEq (ks ++ ls) (a ++ c) (b ++ d) = some (s && t) := by
  intro ks
  induction ks with
  | nil =>
    intro ls a b c d s t h1 h2
    cases a <;> cases b <;> simp [cellsEq] at h1
    subst h1
    simpa using h2
  | cons k ks ih =>
    intro ls a b c d s t h1 h2
    cases a with
    | nil => cases k <;> simp [cellsEq] at h1
    | cons x r =>
      cases b with
      | nil => cases k <;> cases x <;> simp [cellsEq] at h1
      | cons y q =>
        cases k <;> cases x <;> (try (simp [cellsEq] at h1; done)) <;> cases y <;> simp only [cellsEq, List.cons_append] at h1 ⊢ <;> (try cases h1) <;> (try split at h1) <;> (try cases h1) <;>
          (obtain ⟨u, hu, rfl⟩ := Option.map_eq_some_iff.1 h1
           rw [ih ls r q c d u t hu h2]
           simp [*, Bool.and_assoc])
theorem ev_eq {x y : Ev} (hx : x.ok) (hy : y.ok) (neg : Bool) :
    aeq neg [.i, .i, .i, .i, .i, .i, .i, .i, .i, .i, .i, .i, .i, .i, .i, .i, .i, .i, .i, .i, .i, .i, .i, .i, .i, .i, .i, .i, .i, .i, .i, .i, .i, .i, .i, .i, .i, .i, .i, .i, .i, .i, .i, .i, .i] (.agg x.cells) (.agg y.cells) = some (.bool (decide (x = y) != neg)) := by
  have h1 := cellsEq_u32 x.regs y.regs _ rfl (by rw [hx.1, hy.1])
  have h2 := cellsEq_u32 x.csrs y.csrs _ rfl (by rw [hx.2, hy.2])
  have h3 := cellsEq_join _ _ _ _ _ _ _ _ h1 h2
  have h4 := cellsEq_join [.i, .i, .i, .i, .i, .i] _ [.int .i64 x.kind, .int .u64 x.tick, .int .u32 x.value, .int .u32 x.cause, .int .u32 x.epc, .int .u32 x.tval]
    [.int .i64 y.kind, .int .u64 y.tick, .int .u32 y.value, .int .u32 y.cause, .int .u32 y.epc, .int .u32 y.tval] _ _ _ _ rfl h3
  rw [hx.1, hx.2] at h4
  simp only [aeq, Ev.cells]
  refine (congrArg (Option.map _) h4).trans ?_
  simp only [Option.map_some]
  congr 3
  obtain ⟨a, b, c, d, e, f, g, i⟩ := x
  obtain ⟨a', b', c', d', e', f', g', i'⟩ := y
  rw [Bool.eq_iff_iff]
  simp [and_assoc]
theorem evFrom_ne {xs ys : List Ev} {d k : Nat} (h : xs[k]? ≠ ys[k]?) : evFrom xs ys (d + 1) k = k := by simp [evFrom, h]
theorem evFrom_eq {xs ys : List Ev} {d k : Nat} (h : xs[k]? = ys[k]?) : evFrom xs ys (d + 1) k = evFrom xs ys d (k + 1) := by simp [evFrom, h]
structure Df where
  what : ByteArray
  at_ : Int
  a : Int
  b : Int
  deriving DecidableEq
def Df.cells (d : Df) : List AV := [.str d.what, .int .i64 d.at_, .int .u64 d.a, .int .u64 d.b]
theorem Df.len (d : Df) : d.cells.length = 4 := rfl
def dfs (l : List Df) : AV := .ro (l.flatMap Df.cells) l.length
def dputs (what : ByteArray) (at_ a b : Int) : List Df := if a = b then [] else [⟨what, at_, a, b⟩]
end Go.Ab
