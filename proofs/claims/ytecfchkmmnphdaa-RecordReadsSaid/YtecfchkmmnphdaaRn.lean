/- Bytes as events: what the document says, over numbers and lists alone. -/
import Derived.Test.YtecfchkmmnphdaaRm
set_option linter.unusedVariables false
namespace Go.Ab
/-- A number at a list's head, seven bits a byte, that is at most another one. -/
def rdN (most : Nat) : List (BitVec 8) → Nat → Nat → Option (Nat × List (BitVec 8))
  | [], _, _ => none
  | c :: r, k, n => if 9 < k ∨ (most - n) / 2 ^ (7 * k) < c.toNat % 128 ∨ (0 < k ∧ c = 0#8) then none
    else if c.toNat < 128 then some (n + c.toNat % 128 * 2 ^ (7 * k), r) else rdN most r (k + 1) (n + c.toNat % 128 * 2 ^ (7 * k))
theorem rdN_le {most : Nat} : ∀ (bs : List (BitVec 8)) (k n : Nat) (x : Nat × List (BitVec 8)), rdN most bs k n = some x → n ≤ most → x.1 ≤ most ∧ x.2.length < bs.length := by
  intro bs
  induction bs with
  | nil => intro k n x h; simp [rdN] at h
  | cons c r ih =>
    intro k n x h hn
    rw [rdN] at h
    split at h
    · cases h
    · rename_i hc
      have h1 : c.toNat % 128 ≤ (most - n) / 2 ^ (7 * k) := by
        have := fun e => hc (.inr (.inl e))
        omega
      have h2 := (Nat.le_div_iff_mul_le (Nat.two_pow_pos _)).1 h1
      split at h
      · cases h
        exact ⟨by simp only; omega, by simp⟩
      · have := ih _ _ _ h (by omega)
        exact ⟨this.1, by simp; omega⟩
/-- Words that a mask tells, over what they were. -/
def rdW : List (BitVec 32) → Nat → List (BitVec 8) → Option (List (BitVec 32) × List (BitVec 8))
  | [], _, bs => some ([], bs)
  | w :: ws, m, bs => if m % 2 = 0 then (rdW ws (m / 2) bs).map fun x => (w :: x.1, x.2)
    else match bs with
      | a :: b :: c :: d :: r => if BitVec.ofNat 32 (leN [a, b, c, d]) = w then none else (rdW ws (m / 2) r).map fun x => (BitVec.ofNat 32 (leN [a, b, c, d]) :: x.1, x.2)
      | _ => none
theorem rdW_0 {w : BitVec 32} {ws : List (BitVec 32)} {m : Nat} {bs : List (BitVec 8)} (h : m % 2 = 0) : rdW (w :: ws) m bs = (rdW ws (m / 2) bs).map fun x => (w :: x.1, x.2) := by
  conv => lhs; unfold rdW
  rw [if_pos h]
theorem rdW_1 {w : BitVec 32} {ws : List (BitVec 32)} {m : Nat} {a b c d : BitVec 8} {r : List (BitVec 8)} (h : ¬ m % 2 = 0) : rdW (w :: ws) m (a :: b :: c :: d :: r) =
    if BitVec.ofNat 32 (leN [a, b, c, d]) = w then none else (rdW ws (m / 2) r).map fun x => (BitVec.ofNat 32 (leN [a, b, c, d]) :: x.1, x.2) := by
  conv => lhs; unfold rdW
  rw [if_neg h]
theorem rdW_n {w : BitVec 32} {ws : List (BitVec 32)} {m : Nat} {bs : List (BitVec 8)} (h : ¬ m % 2 = 0) (hb : bs.length < 4) : rdW (w :: ws) m bs = none := by
  conv => lhs; unfold rdW
  rw [if_neg h]
  match bs, hb with
  | [], _ => rfl
  | [_], _ => rfl
  | [_, _], _ => rfl
  | [_, _, _], _ => rfl
  | _ :: _ :: _ :: _ :: _, hb => simp at hb; omega
def Kp.of (l : List (BitVec 32)) : Kp := ⟨l.getD 0 0, l.getD 1 0, l.getD 2 0, l.getD 3 0, l.getD 4 0, l.getD 5 0, l.getD 6 0⟩
def Rg.of (l : List (BitVec 32)) : Rg := Vector.ofFn fun i => l.getD i 0
theorem Kp.of_l (l : List (BitVec 32)) (h : l.length = 7) : (Kp.of l).l = l := by
  match l, h with
  | [a, b, c, d, e, f, g], _ => rfl
theorem Rg.of_l (l : List (BitVec 32)) (h : l.length = 32) : (Rg.of l).toList = l := by
  apply List.ext_getElem
  · simp [h]
  · intro i h1 h2
    simp [Rg.of, h2]
theorem Rg.of_toList (r : Rg) : Rg.of r.toList = r := by
  apply Vector.ext
  intro i h
  simp [Rg.of]
theorem Kp.of_self (k : Kp) : Kp.of k.l = k := rfl
def rdT (e : Evt) (p : Past) (bs : List (BitVec 8)) : Option (Evt × List (BitVec 8)) := do
  let (cause, b1) ← rdN 4294967295 bs 0 0
  let (epc, b2) ← rdN 4294967295 b1 0 0
  let (tval, b3) ← rdN 4294967295 b2 0 0
  let (mask, b4) ← rdN 4294967295 b3 0 0
  let (regs, b5) ← rdW p.regs.toList mask b4
  match b5 with
  | [] => none
  | c :: b6 => if c.toNat > 127 then none else do
    let (kept, b7) ← rdW p.kept.l c.toNat b6
    some ({ e with cause := BitVec.ofNat 32 cause, epc := BitVec.ofNat 32 epc, tval := BitVec.ofNat 32 tval, regs := Rg.of regs, csrs := Kp.of kept }, b7)
theorem rdT_past (e : Evt) (p : Past) (t : BitVec 64) (bs : List (BitVec 8)) : rdT e ⟨t, p.regs, p.kept⟩ bs = rdT e p bs := rfl
theorem rdT_kind {e : Evt} {p : Past} {bs : List (BitVec 8)} {x : Evt × List (BitVec 8)} (h : rdT e p bs = some x) : x.1.kind = e.kind ∧ x.1.tick = e.tick ∧ x.1.value = e.value := by
  simp only [rdT, Option.bind_eq_bind, Option.bind_eq_some_iff] at h
  obtain ⟨_, _, _, _, _, _, _, _, y, _, h⟩ := h
  split at h
  · cases h
  · split at h
    · cases h
    · simp only [Option.bind_eq_some_iff] at h
      obtain ⟨_, _, h⟩ := h
      cases h
      exact ⟨rfl, rfl, rfl⟩
def rdE (p : Past) : List (BitVec 8) → Option (Evt × List (BitVec 8))
  | [] => none
  | c :: b1 => do
    let (n, b2) ← rdN (18446744073709551615 - p.tick.toNat) b1 0 0
    let e : Evt := ⟨c.toNat, BitVec.ofNat 64 (p.tick.toNat + n), 0, 0, 0, 0, Rg.zero, Kp.zero⟩
    if c.toNat = 1 then match b2 with
      | [] => none
      | v :: b3 => some ({ e with value := v.setWidth 32 }, b3)
    else if c.toNat = 3 then do
      let (v, b3) ← rdN 4294967295 b2 0 0
      some ({ e with value := BitVec.ofNat 32 v }, b3)
    else if c.toNat = 2 then rdT e p b2
    else none
def rdA : Nat → List (BitVec 8) → Past → Int × List Evt
  | 0, bs, _ => if bs = [] then (0, []) else (3, [])
  | n + 1, bs, p => if bs = [] then (0, []) else match rdE p bs with
    | none => (1, [])
    | some (e, r) => ((rdA n r (evP e p)).1, e :: (rdA n r (evP e p)).2)
theorem rdA_nil (n : Nat) (p : Past) : rdA n [] p = (0, []) := by cases n <;> simp [rdA]
theorem rdA_some {n : Nat} {bs r : List (BitVec 8)} {p : Past} {e : Evt} (hb : bs ≠ []) (h : rdE p bs = some (e, r)) : rdA (n + 1) bs p = ((rdA n r (evP e p)).1, e :: (rdA n r (evP e p)).2) := by
  simp [rdA, hb, h]
theorem rdA_none {n : Nat} {bs : List (BitVec 8)} {p : Past} (hb : bs ≠ []) (h : rdE p bs = none) : rdA (n + 1) bs p = (1, []) := by
  simp [rdA, hb, h]
def readE (bs : List (BitVec 8)) : Int := (rdA 4096 bs Past.zero).1
def readL (bs : List (BitVec 8)) : List Evt := if readE bs = 0 then (rdA 4096 bs Past.zero).2 else []
end Go.Ab
