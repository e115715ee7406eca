/- Items along a row or a path. -/
import Derived.Test.YtglanajcilfpcaaDoorH14
set_option linter.unusedSimpArgs false
set_option linter.unusedVariables false
set_option maxRecDepth 10000
namespace Go.Ab
open Go.Proofs
variable {G : Glo} {h : Heap}
def okAt (M : IRam) (pc : BitVec 32) : Bool := decide (askedN M.b.length pc 4 = 0) && canN (wordN M pc) (kindK (wordN M pc))
/-- The items from an address on; what goes on is told by a function of the turns that are left. -/
def walkN (f : IIt → Nat → List Bool → Bool × IIt × List Bool) (M : IRam) : Nat → BitVec 32 → List Bool → List IIt
  | 0, _, _ => []
  | k + 1, pc, T =>
    if okAt M pc then
      let s := f (itemN (wordN M pc) pc) (kindK (wordN M pc)) T
      s.2.1 :: (if s.1 then walkN f M k s.2.1.next s.2.2 else [])
    else []
def rowOn (x : IIt) (n : Nat) (T : List Bool) : Bool × IIt × List Bool := (!endsN n, x, T)
/-- What a closure must do that tells where an item goes on: it may write to the item, and to blocks of its own. -/
def OnOk (P : Program) (G : Glo) (fn : Nat) (caps : List AV) (own : Nat → Prop) (St : Heap → List Bool → Prop) (f : IIt → Nat → List Bool → Bool × IIt × List Bool) : Prop :=
  callable P fn ∧ (∀ H H' T, St H T → (∀ d, own d → H' d = H d) → St H' T) ∧ (∀ H T, St H T → ∀ d, own d → H d ≠ none) ∧ ∀ (H : Heap) (c : Nat) (x : IIt) (n : Nat) (T : List Bool), St H T → ¬ own c → H c = some ⟨x.cells, 0⟩ → x.i.op = n → n < 58 →
    Spec P G fn (.ptr c 0 :: caps) H (fun r H' => r = .bool (f x n T).1 ∧ H' c = some ⟨(f x n T).2.1.cells, 0⟩ ∧ St H' (f x n T).2.2 ∧ ∀ d, d ≠ c → ¬ own d → H' d = H d)
theorem rowOn_ok : OnOk Tryd.prog G 28 [] (fun _ => False) (fun _ _ => True) rowOn :=
  ⟨⟨_, C28ok.hf, rfl, rfl⟩, fun _ _ _ _ _ => trivial, fun _ _ _ _ h => h.elim, fun H c x n T _ _ hc hn h58 => (rowOn_spec hc hn h58).mono fun r H' ⟨e1, e2⟩ => by subst e2; exact ⟨e1, hc, trivial, fun _ _ _ => rfl⟩⟩
theorem pathOn_ok (ct : Nat) : OnOk Tryd.prog G 35 [.ptr ct 0] (fun d => d = ct) (fun H T => H ct = some ⟨turnsC T, 0⟩) pathOn :=
  ⟨⟨_, C35ok.hf, rfl, rfl⟩, fun H H' T hs hd => (hd ct rfl).trans hs, fun H T hs d e => by rw [e, hs]; simp, fun H c x n T hs hno hc hn h58 => (pathOn_spec hno hc hs hn h58).mono fun r H' ⟨e1, e2, e3, e4⟩ => ⟨e1, e2, e3, e4⟩⟩
end Go.Ab
